/-
  HistKeeps.
-/
import Derived.Test.YtanfmmcpjifgiaaMxHe
set_option linter.unusedVariables false
set_option linter.unusedSimpArgs false
namespace Go.Mx

def cKind (c : Cl) : Int := c.2.1
def cArg (c : Cl) : Int := c.2.2.1
def cV (c : Cl) : Int := c.2.2.2.2.2.2.1
def isGot (v : Int) (c : Cl) : Bool := decide (cKind c ≠ 0) && (decide (cCode c = 4) && decide (cV c = v))
def isPush (v : Int) (c : Cl) : Bool := decide (cKind c = 0) && (decide (cCode c ≠ 3) && decide (cArg c = v))
def cntC (f : Cl → Bool) (cs : List Cl) (l : List Nat) : Nat := ((callsOf cs l).filter f).length

theorem nodup_sub {α : Type} [BEq α] [LawfulBEq α] : ∀ {l1 l2 : List α}, l1.Nodup → (∀ x ∈ l1, x ∈ l2) → l1.length ≤ l2.length
  | [], _, _, _ => Nat.zero_le _
  | a :: l1, l2, hn, hs => by
    rw [List.nodup_cons] at hn
    have ha := hs a (by simp)
    have := nodup_sub (l2 := l2.erase a) hn.2 fun x hx => (List.mem_erase_of_ne (fun e => hn.1 (by subst e; exact hx))).2 (hs x (by simp [hx]))
    rw [List.length_erase_of_mem ha] at this
    have h0 : 0 < l2.length := List.length_pos_of_mem ha
    rw [List.length_cons]
    omega
theorem callsOf_range (cs : List Cl) : callsOf cs (List.range cs.length) = cs := by
  unfold callsOf
  apply List.ext_getElem?
  intro n
  have key : ∀ m, m ≤ cs.length → (List.range m).filterMap (fun i => cs[i]?) = cs.take m := by
    intro m
    induction m with
    | zero => intro _; rfl
    | succ m ih =>
      intro hm
      rw [List.range_succ, List.filterMap_append, ih (by omega), take_succ' cs (by omega)]
      simp [show m < cs.length from by omega]
  rw [key cs.length (Nat.le_refl _), List.take_length]
theorem cntC_filter (f : Cl → Bool) (cs : List Cl) (l : List Nat) : cntC f cs l = (l.filter fun i => match cs[i]? with | some c => f c | none => false).length := by
  unfold cntC callsOf
  induction l with
  | nil => rfl
  | cons i l ih =>
    cases e : cs[i]? with
    | none => simp [e, ih]
    | some c =>
      cases g : f c
      · simp [e, g, ih]
      · simp [e, g, ih]
theorem cntC_le {f : Cl → Bool} {cs : List Cl} {l1 l2 : List Nat} (hn : l1.Nodup) (hs : ∀ i ∈ l1, ∀ c, cs[i]? = some c → f c = true → i ∈ l2) : cntC f cs l1 ≤ cntC f cs l2 := by
  rw [cntC_filter, cntC_filter]
  refine nodup_sub (List.Pairwise.filter _ hn) fun i hi => ?_
  obtain ⟨h1, h2⟩ := List.mem_filter.1 hi
  refine List.mem_filter.2 ⟨?_, h2⟩
  cases e : cs[i]? with
  | none => rw [e] at h2; cases h2
  | some c => rw [e] at h2; exact hs i h1 c e h2
theorem cntC_snoc (f : Cl → Bool) {cs : List Cl} {pre : List Nat} {i : Nat} {c : Cl} (h : cs[i]? = some c) : cntC f cs (pre ++ [i]) = cntC f cs pre + if f c = true then 1 else 0 := by
  unfold cntC callsOf
  rw [List.filterMap_append, List.filter_append, List.length_append]
  congr 1
  simp only [List.filterMap_cons, h, List.filterMap_nil]
  cases e : f c <;> simp [List.filter, e]
theorem cntC_pos {f : Cl → Bool} {cs : List Cl} {pre : List Nat} (h : 0 < cntC f cs pre) : ∃ i c, i ∈ pre ∧ cs[i]? = some c ∧ f c = true := by
  rw [cntC_filter] at h
  obtain ⟨i, hi⟩ := List.exists_mem_of_length_pos h
  obtain ⟨h1, h2⟩ := List.mem_filter.1 hi
  cases e : cs[i]? with
  | none => rw [e] at h2; cases h2
  | some c => rw [e] at h2; exact ⟨i, c, h1, e, h2⟩

/-- What a call makes of the number of an element. -/
theorem doL_count {xs : List Int} {c : Cl} {most : Int} (hs : Sound c) (h : (doL xs c most).2 = true) (v : Int) :
    (doL xs c most).1.count v + (if isGot v c = true then 1 else 0) ≤ xs.count v + (if isPush v c = true then 1 else 0) ∧ (isGot v c = true → 0 < xs.count v) := by
  obtain ⟨who, kind, arg, bg, en, code, w, u⟩ := c
  change Int at who kind arg bg en code w
  have hs : SoundI who kind bg en code := hs
  unfold SoundI May at hs
  have hk : (code = 0 ∨ code = 2 ∨ code = 3 ∨ code = 4 ∨ code = 5 ∨ code = 6) ∧ (kind = 0 ∨ kind = 1 ∨ kind = 2) ∧ (code = 2 ∨ code = 3 → kind = 0) ∧ (code = 4 ∨ code = 5 ∨ code = 6 → kind ≠ 0) := by omega
  have pop : xs.length ≠ 0 → ∃ y, xs[xs.length - 1]? = some y ∧ xs.count v = (xs.take (xs.length - 1)).count v + if y = v then 1 else 0 := fun hne => by
    refine ⟨xs[xs.length - 1]'(by omega), by simp, ?_⟩
    conv => lhs; rw [← List.take_append_drop (xs.length - 1) xs]
    rw [List.count_append]
    congr 1
    have : xs.drop (xs.length - 1) = [xs[xs.length - 1]'(by omega)] := by
      rw [List.drop_eq_getElem_cons (by omega), List.drop_of_length_le (by omega)]
    rw [this, List.count_singleton]
    simp
  have steal : xs.length ≠ 0 → ∃ y, xs[0]? = some y ∧ xs.count v = (xs.drop 1).count v + if y = v then 1 else 0 := fun hne => by
    cases xs with
    | nil => exact absurd rfl hne
    | cons y ys => exact ⟨y, rfl, by rw [List.count_cons]; simp⟩
  unfold doL at h ⊢
  unfold isGot isPush cKind cCode cV cArg
  dsimp only [Den] at h ⊢
  obtain ⟨h1, h2, h3, h4⟩ := hk
  rcases h2 with rfl | rfl | rfl
  · rcases h1 with rfl | rfl | rfl | rfl | rfl | rfl <;> simp at h3 h4 h ⊢
    · by_cases q : most ≤ (xs.length : Int)
      · rw [if_pos q] at h; simp at h
      · rw [if_neg q, List.count_append, List.count_singleton]
        simp
    · by_cases q : most ≤ (xs.length : Int)
      · rw [if_pos q] at h; simp at h
      · rw [if_neg q, List.count_append, List.count_singleton]
        simp
  · by_cases q : xs.length = 0
    · rcases h1 with rfl | rfl | rfl | rfl | rfl | rfl <;> simp [q] at h3 h4 h ⊢
    · obtain ⟨y, y1, y2⟩ := pop q
      rcases h1 with rfl | rfl | rfl | rfl | rfl | rfl <;> simp [q] at h3 h4 h ⊢
      all_goals first
        | omega
        | (rw [y1] at h; cases h; exact ⟨by omega, fun e => List.mem_of_getElem? (e ▸ y1)⟩)
  · by_cases q : xs.length = 0
    · rcases h1 with rfl | rfl | rfl | rfl | rfl | rfl <;> simp [q] at h3 h4 h ⊢
    · obtain ⟨y, y1, y2⟩ := steal q
      rcases h1 with rfl | rfl | rfl | rfl | rfl | rfl <;> simp [q] at h3 h4 h ⊢
      all_goals rw [List.drop_one] at y2
      all_goals first
        | omega
        | (rw [y1] at h; cases h; exact ⟨by omega, fun e => List.mem_of_getElem? (e ▸ y1)⟩)

structure Cnt (cs : List Cl) (most : Int) (pre : List Nat) (t : Nat → Nat) (xs : List Int) : Prop where
  laid : Laid cs most pre t xs
  nd : pre.Nodup
  bal : ∀ v, xs.count v + cntC (isGot v) cs pre ≤ cntC (isPush v) cs pre
  early : ∀ i ∈ pre, ∀ c, cs[i]? = some c → cKind c ≠ 0 → cCode c = 4 → ∃ (j : Nat) (d : Cl), cs[j]? = some d ∧ isPush (cV c) d = true ∧ cBg d ≤ cEn c
theorem Cnt.step {cs : List Cl} (hH : HistN cs cs.length) {most : Int} {pre : List Nat} {t : Nat → Nat} {xs : List Int} {w i : Nat} {c : Cl} (h : Cnt cs most pre t xs) (s : Sx cs most t xs w i c) : Cnt cs most (pre ++ [i]) (bump t w) (doL xs c most).1 := by
  have s0 := s
  obtain ⟨s1, s2, s3, s4, s5⟩ := s
  have hni : i ∉ pre := fun hm => by
    obtain ⟨w', n, q1, q2, q3⟩ := (h.laid.mem i).1 hm
    obtain ⟨e1, e2⟩ := byL_inj q3 s2
    subst e1
    omega
  have hsnd := (hH i c (List.getElem?_eq_some_iff.1 s3).1 s3).1
  refine ⟨h.laid.step hH s0, ?_, fun v => ?_, fun j hj d hd hk hc => ?_⟩
  · rw [List.nodup_append]
    refine ⟨h.nd, by simp, fun a ha b hb => ?_⟩
    obtain rfl : b = i := by simpa using hb
    exact fun e => hni (e ▸ ha)
  · rw [cntC_snoc _ s3, cntC_snoc _ s3]
    have := (doL_count (most := most) hsnd s4 v).1
    have := h.bal v
    omega
  · rcases List.mem_append.1 hj with hj | hj
    · exact h.early j hj d hd hk hc
    · obtain rfl : j = i := by simpa using hj
      rw [s3] at hd; cases hd
      have hg : isGot (cV c) c = true := by simp [isGot, hk, hc]
      have hpos := (doL_count (most := most) hsnd s4 (cV c)).2 hg
      have := h.bal (cV c)
      obtain ⟨k, e, k1, k2, k3⟩ := cntC_pos (show 0 < cntC (isPush (cV c)) cs pre by omega)
      refine ⟨k, e, k2, k3, ?_⟩
      have := h.laid.late k k1 e k2 w (t w) j c s1 (Nat.le_refl _) s2 s3
      apply Classical.byContradiction
      intro hlt
      exact this ⟨by omega, by omega⟩
theorem keeps {cs : List Cl} (hH : HistN cs cs.length) {most : Int} {os : List Int} (hL : LegalL cs most os) {i : Nat} {c : Cl} (hc : cs[i]? = some c) (h1 : cKind c ≠ 0) (h2 : cCode c = 4) :
    (cs.filter (isGot (cV c))).length ≤ (cs.filter (isPush (cV c))).length ∧ ∃ (j : Nat) (d : Cl), cs[j]? = some d ∧ isPush (cV c) d = true ∧ cBg d ≤ cEn c := by
  obtain ⟨is, t, xs, _, hW, hD⟩ := legal_way hH hL
  have q := hW.inv (P := Cnt cs most) (fun pre t xs w i c hp hs => hp.step hH hs) [] ⟨.nil cs most, List.nodup_nil, fun v => Nat.le_refl _, fun i hi => (by cases hi)⟩
  rw [List.nil_append] at q
  have got_in : ∀ {i : Nat} {c : Cl}, cs[i]? = some c → cCode c ≠ 0 → i ∈ is := fun {i c} hc hcode => by
    obtain ⟨w, n, hw, _, hn⟩ := byL_has hH hc
    have hlt : n < t w := Nat.lt_of_not_le fun hle => hcode (hD w n i c hw hle hn hc)
    exact (q.laid.mem i).2 ⟨w, n, hw, hlt, hn⟩
  have whole : ∀ f, (cs.filter f).length = cntC f cs (List.range cs.length) := fun f => by unfold cntC; rw [callsOf_range]
  refine ⟨?_, q.early i (got_in hc (by omega)) c hc h1 h2⟩
  rw [whole, whole]
  have a1 : cntC (isGot (cV c)) cs (List.range cs.length) ≤ cntC (isGot (cV c)) cs is := cntC_le List.nodup_range fun j _ d hd hf => got_in hd (by
    unfold isGot at hf
    simp only [Bool.and_eq_true, decide_eq_true_eq] at hf
    omega)
  have a2 : cntC (isPush (cV c)) cs is ≤ cntC (isPush (cV c)) cs (List.range cs.length) := cntC_le q.nd fun j _ d hd _ => List.mem_range.2 (List.getElem?_eq_some_iff.1 hd).1
  have := q.bal (cV c)
  omega

/-! ### the law -/
theorem w64_up' {i n : Nat} (h : i < n) (hn : n ≤ 2000000000) : w64 ((i : Int) + 1) = ((i + 1 : Nat) : Int) := by rw [w64_of] <;> omega
theorem filter_step {α : Type} (f : α → Bool) (l : List α) {i : Nat} {x : α} (h : l[i]? = some x) : ((l.take (i + 1)).filter f).length = ((l.take i).filter f).length + if f x = true then 1 else 0 := by
  rw [take_some h, List.filter_append, List.length_append]
  congr 1
  cases e : f x <;> simp [List.filter, e]
theorem histKeeps_spec {calls : Sl} {most : Int} {h0 : Heap} {cs : List Cl} (ha : Arr h0 kapiCall calls cs) (hn : calls.len ≤ 2097152) {c1 : Sl → Int → Heap → ((Sl × (Int × Unit)) → Heap → Prop) → Prop}
    (i1 : ∀ {l : Sl} {m : Int} {h : Heap} {us : List Cl} {Q : (Sl × (Int × Unit)) → Heap → Prop}, Arr h kapiCall l us → l.len ≤ 2097152 → (∀ r e os h', OrdR us m e os → New h h' ki r os → Q (r, (e, ())) h') → c1 l m h Q) {Q : Bool → Heap → Prop} (hQ : ∀ h', le h0 h' → Q true h') :
    law4_HistKeeps.M c1 calls most h0 Q := by
  have hl : calls.len = cs.length := ha.1.symm
  refine i1 (us := []) ⟨rfl, Nat.le_refl _, rfl⟩ (by show (0 : Nat) ≤ _; omega) fun r4 e4 os4 h5 R4 n4 => ?_
  have he4 : e4 = 0 := R4.1.one (.inr (.inr (.inr (.inr ⟨by simp, by decide, fun i b hi => absurd hi (Nat.not_lt_zero _), ⟨[], ⟨[], rfl⟩, fun p q kp kq a b _ hq => absurd hq (Nat.not_lt_zero _), fun i c hi => absurd hi (Nat.not_lt_zero _)⟩, rfl⟩))))
  subst he4
  refine i1 (ha.le n4.le) hn fun r6 e6 os6 h7 R6 n6 => ?_
  have l7 : le h0 h7 := n4.le.trans n6.le
  refine ⟨fun d => absurd rfl (of_decide_eq_true d), fun _ => ⟨fun d => hQ h7 l7, fun d => ?_⟩⟩
  have d : ¬ e6 ≠ 0 := of_decide_eq_false d
  have d : e6 = 0 := by omega
  obtain ⟨o1, o2, hH, hL⟩ := R6.2.2 d
  have ha7 := ha.le l7
  refine Loop.up cs.length (fun s => s.1) (fun i s k => k = h7) rfl rfl ?_
  rintro i ⟨i', u⟩ k go hi hc rfl hgo
  dsimp only at hc; subst hc
  refine ⟨fun e => ?_, fun e => hQ _ l7⟩
  have e : (i : Int) < (calls.len : Int) := of_decide_eq_true e
  have hlt : i < cs.length := by omega
  have hbi : (0 : Int) ≤ (i : Int) := by omega
  refine ⟨⟨hbi, e⟩, ha7.at hbi e rfl fun c hc => ?_⟩
  rw [Int.toNat_natCast] at hc
  have next : law4_HistKeeps.j1 go ((i : Int), u) () k := hgo hlt _ _ (w64_up' (n := cs.length) hlt (by omega)) rfl
  have main : cKind c ≠ 0 → cCode c = 4 → law4_HistKeeps.j8 calls Q go ((i : Int), u) c () k := fun h1 h2 => by
    obtain ⟨k1, j0, d0, k2, k3, k4⟩ := keeps hH hL hc h1 h2
    refine Loop.up cs.length (fun s => s.2.2.2.1) (fun j s k' => k' = k ∧ s.1 = (((cs.take j).filter (isGot (cV c))).length : Int) ∧ s.2.1 = (((cs.take j).filter (isPush (cV c))).length : Int) ∧
      (s.2.2.1 = true ∨ ∀ (j' : Nat) d, j' < j → cs[j']? = some d → isPush (cV c) d = true → ¬ cBg d ≤ cEn c)) rfl ⟨rfl, rfl, rfl, .inr fun j' d hj => absurd hj (Nat.not_lt_zero _)⟩ ?_
    rintro j ⟨g, p, ea, j', u2⟩ k' go2 hj hcc ⟨rfl, e1, e2, e3⟩ hgo2
    dsimp only at hcc e1 e2 e3; subst hcc; subst e1; subst e2
    have hgl : ((cs.take j).filter (isGot (cV c))).length ≤ 40 := by
      have a := List.length_filter_le (isGot (cV c)) (cs.take j)
      have b := List.length_take_le' j cs
      omega
    have hpl : ((cs.take j).filter (isPush (cV c))).length ≤ 40 := by
      have a := List.length_filter_le (isPush (cV c)) (cs.take j)
      have b := List.length_take_le' j cs
      omega
    refine ⟨fun f => ?_, fun f => ?_⟩
    · have f : (j : Int) < (calls.len : Int) := of_decide_eq_true f
      have hlt2 : j < cs.length := by omega
      have hbj : (0 : Int) ≤ (j : Int) := by omega
      refine ⟨⟨hbj, f⟩, ha7.at hbj f rfl fun d hd => ?_⟩
      rw [Int.toNat_natCast] at hd
      have fg := filter_step (isGot (cV c)) cs hd
      have fp := filter_step (isPush (cV c)) cs hd
      -- the step's end
      have fin : ∀ (b : Bool), (isPush (cV c) d = true → cBg d ≤ cEn c → b = true) → (ea = true → b = true) → ∀ (x y : Int), x = (((cs.take (j + 1)).filter (isGot (cV c))).length : Int) → y = (((cs.take (j + 1)).filter (isPush (cV c))).length : Int) →
          law4_HistKeeps.j2 go2 ((((cs.take j).filter (isGot (cV c))).length : Int), ((((cs.take j).filter (isPush (cV c))).length : Int), (ea, ((j : Int), u2)))) (x, (y, (b, ()))) k' := fun b hb1 hb2 x y hx hy => by
        refine hgo2 hlt2 _ _ (w64_up' (n := cs.length) hlt2 (by omega)) ⟨rfl, hx, hy, ?_⟩
        cases hb : b with
        | true => exact .inl rfl
        | false =>
          refine .inr fun j' d' hj' hd' hp' => ?_
          by_cases q : j' = j
          · subst q
            rw [hd] at hd'; cases hd'
            intro hle
            rw [hb1 hp' hle] at hb; cases hb
          · rcases e3 with e3 | e3
            · rw [hb2 e3] at hb; cases hb
            · exact e3 j' d' (by omega) hd' hp'
      have j4 : ∀ x : Int, x = (((cs.take (j + 1)).filter (isGot (cV c))).length : Int) → law4_HistKeeps.j4 c go2 ((((cs.take j).filter (isGot (cV c))).length : Int), ((((cs.take j).filter (isPush (cV c))).length : Int), (ea, ((j : Int), u2)))) d (x, ()) k' := fun x hx => by
        have no : ¬ isPush (cV c) d = true → law4_HistKeeps.j3 c go2 ((((cs.take j).filter (isGot (cV c))).length : Int), ((((cs.take j).filter (isPush (cV c))).length : Int), (ea, ((j : Int), u2)))) d (x, ()) (false, ()) k' := fun hp => by
          refine ⟨fun q => (by cases q), fun _ => fin ea (fun q => absurd q hp) id x _ hx ?_⟩
          rw [fp, if_neg hp]; rfl
        refine ⟨fun a => ⟨fun b => ?_, fun b => no ?_⟩, fun a => no ?_⟩
        · have a : cKind d = 0 := of_decide_eq_true a
          have b : cCode d ≠ 3 := of_decide_eq_true b
          by_cases q : cArg d = cV c
          · have hp : isPush (cV c) d = true := by simp [isPush, a, b, q]
            have wy : w64 ((((cs.take j).filter (isPush (cV c))).length : Int) + 1) = (((cs.take (j + 1)).filter (isPush (cV c))).length : Int) := by
              rw [fp, if_pos hp, w64_of] <;> omega
            refine ⟨fun _ => ⟨fun z => ?_, fun z => ?_⟩, fun z => absurd q (of_decide_eq_false z)⟩
            · exact fin true (fun _ _ => rfl) (fun _ => rfl) x _ hx wy
            · refine fin _ (fun _ hle => decide_eq_true hle) (fun z' => ?_) x _ hx wy
              have z : ea = false := z
              rw [z'] at z; cases z
          · have hp : ¬ isPush (cV c) d = true := by simp [isPush, q]
            have hdec : decide (cArg d = cV c) = false := decide_eq_false q
            show law4_HistKeeps.j3 c go2 _ d (x, ()) (decide (cArg d = cV c), ()) k'
            rw [hdec]
            exact no hp
        · have b : ¬ cCode d ≠ 3 := of_decide_eq_false b
          simp [isPush, Decidable.not_not.1 b]
        · have a : ¬ cKind d = 0 := of_decide_eq_false a
          simp [isPush, a]
      have j5 : ∀ b : Bool, b = isGot (cV c) d → law4_HistKeeps.j5 c go2 ((((cs.take j).filter (isGot (cV c))).length : Int), ((((cs.take j).filter (isPush (cV c))).length : Int), (ea, ((j : Int), u2)))) d (b, ()) k' := by
        rintro b rfl
        refine ⟨fun q => j4 _ ?_, fun q => j4 _ ?_⟩
        · have q : isGot (cV c) d = true := q
          rw [fg, if_pos q]
          show w64 _ = _
          rw [w64_of] <;> omega
        · have q : isGot (cV c) d = false := q
          rw [fg, if_neg (by rw [q]; decide)]; rfl
      refine ⟨fun a => ⟨fun b => j5 _ ?_, fun b => j5 _ ?_⟩, fun a => j5 _ ?_⟩
      · have a : cKind d ≠ 0 := of_decide_eq_true a
        have b : cCode d = 4 := of_decide_eq_true b
        simp [isGot, a, b]; rfl
      · have b : ¬ cCode d = 4 := of_decide_eq_false b
        simp [isGot, b]
      · have a : ¬ cKind d ≠ 0 := of_decide_eq_false a
        simp [isGot, Decidable.not_not.1 a]
    · have f : ¬ (j : Int) < (calls.len : Int) := of_decide_eq_false f
      obtain rfl : j = cs.length := by omega
      rw [List.take_length]
      refine ⟨fun z => ?_, fun z => ?_⟩
      · have z : (((cs.filter (isPush (cV c))).length : Nat) : Int) < (((cs.filter (isGot (cV c))).length : Nat) : Int) := of_decide_eq_true z
        omega
      · rcases e3 with e3 | e3
        · have : ea = true := e3
          subst this
          exact ⟨fun q => (by cases q), fun _ => next⟩
        · exact absurd k4 (e3 j0 d0 (List.getElem?_eq_some_iff.1 k2).1 k2 k3)
  refine ⟨fun a => ⟨fun _ => next, fun q => (by cases q)⟩, fun a => ⟨fun _ => next, fun q => ?_⟩⟩
  have a : ¬ cKind c = 0 := of_decide_eq_false a
  have q : ¬ cCode c ≠ 4 := of_decide_eq_false q
  exact main a (Decidable.not_not.1 q)

end Go.Mx
