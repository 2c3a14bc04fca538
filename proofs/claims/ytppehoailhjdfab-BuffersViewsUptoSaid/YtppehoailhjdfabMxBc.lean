/-
  buffers.Memory and its views: what their calls come to.
-/
import Derived.Test.YtppehoailhjdfabMxBb
set_option linter.unusedVariables false
set_option linter.unusedSimpArgs false
set_option linter.unusedSectionVars false
namespace Go.Mx

/-- A loop whose rounds are counted by what holds. -/
theorem Loop.idxB {σ : Type} {body : (σ → Heap → Prop) → σ → Heap → Prop} (N : Nat) (I : Nat → σ → Heap → Prop) {s : σ} {h : Heap} (h1 : I 0 s h)
    (hb : ∀ n s h go, n ≤ N → I n s h → (n < N → ∀ s' h', I (n + 1) s' h' → go s' h') → body go s h) : Loop body s h := by
  classical
  have top : ∀ (P : Nat → Prop), (∃ n, n ≤ N ∧ P n) → ∃ n, n ≤ N ∧ P n ∧ ∀ m, m ≤ N → P m → m ≤ n := by
    intro P
    have key : ∀ k, (∃ n, n ≤ N ∧ P n ∧ N - n ≤ k) → ∃ n, n ≤ N ∧ P n ∧ ∀ m, m ≤ N → P m → m ≤ n := by
      intro k
      induction k with
      | zero => rintro ⟨n, a, b, c⟩; exact ⟨n, a, b, fun m hm _ => by omega⟩
      | succ k ih =>
        rintro ⟨n, a, b, c⟩
        by_cases q : ∃ m, m ≤ N ∧ P m ∧ n < m
        · obtain ⟨m, m1, m2, m3⟩ := q
          exact ih ⟨m, m1, m2, by omega⟩
        · exact ⟨n, a, b, fun m m1 m2 => Nat.le_of_not_lt fun m3 => q ⟨m, m1, m2, m3⟩⟩
    rintro ⟨n, a, b⟩
    exact key N ⟨n, a, b, by omega⟩
  refine ⟨fun s h => ∃ n, n ≤ N ∧ I n s h, fun s h => if q : ∃ n, n ≤ N ∧ I n s h then N - Classical.choose (top (fun n => I n s h) q) else 0, ⟨0, Nat.zero_le _, h1⟩, ?_⟩
  intro s h hs
  have hc := Classical.choose_spec (top (fun n => I n s h) hs)
  refine hb _ s h _ hc.1 hc.2.1 fun hlt s' h' hI => ⟨⟨_, hlt, hI⟩, ?_⟩
  have hs' : ∃ n, n ≤ N ∧ I n s' h' := ⟨_, hlt, hI⟩
  have hc' := Classical.choose_spec (top (fun n => I n s' h') hs')
  have := hc'.2.2 _ hlt hI
  show (if q : ∃ n, n ≤ N ∧ I n s' h' then N - Classical.choose (top (fun n => I n s' h') q) else 0) < (if q : ∃ n, n ≤ N ∧ I n s h then N - Classical.choose (top (fun n => I n s h) q) else 0)
  rw [dif_pos hs', dif_pos hs]
  omega


def BmR (h0 : Heap) (bm : Nat) (M : BM) (S : Nat → Prop) (h : Heap) : Prop := ∃ ba c l who qs, S = fpB bm ba c l qs ∧ BmS h0 h bm ba c l who qs M
theorem BmR.le {h0 bm M S h} (R : BmR h0 bm M S h) : Go.Mx.le h0 h := by obtain ⟨_, _, _, _, _, _, o⟩ := R; exact o.le
theorem BmR.live {h0 bm M S h} (R : BmR h0 bm M S h) {x : Nat} (hx : S x) : h x ≠ none := by obtain ⟨_, _, _, _, _, rfl, o⟩ := R; exact o.live hx
theorem BmR.fresh {h0 bm M S h} (R : BmR h0 bm M S h) {x : Nat} (hx : S x) : h0 x = none := by obtain ⟨_, _, _, _, _, rfl, o⟩ := R; exact o.fresh hx
theorem BmR.more {h0 bm M S h h'} (R : BmR h0 bm M S h) (e : Go.Mx.le h h') : BmR h0 bm M S h' := by obtain ⟨ba, c, l, who, qs, rfl, o⟩ := R; exact ⟨ba, c, l, who, qs, rfl, o.more e⟩
theorem BmR.ext {h0 bm M S h h'} (R : BmR h0 bm M S h) {T : Nat → Prop} (e : Ext T h h') (n : ∀ x, S x → ¬ T x) (f : ∀ x, T x → h0 x = none) : BmR h0 bm M S h' := by obtain ⟨ba, c, l, who, qs, rfl, o⟩ := R; exact ⟨ba, c, l, who, qs, rfl, o.ext e n f⟩

/-! ### the arena's calls -/
def WhoC (c : Option Addr → Int → Heap → (Unit → Heap → Prop) → Prop) : Prop := ∀ {h0 h : Heap} {b : Nat} {cl l : Sl} {sz mk : Int} {cs : List Int} {lg : List Acc} {who : Int} {wt : Bool} {w : Int} {Q : Unit → Heap → Prop}, ArS h0 h b cl l sz mk cs lg who wt →
  (∀ h', ArS h0 h' b cl l sz mk cs lg w wt → Step (fpA b cl l) (fpA b cl l) h h' → Q () h') → c (some (ptr b)) w h Q
def WatchC (c : Option Addr → Bool → Heap → (Unit → Heap → Prop) → Prop) : Prop := ∀ {h0 h : Heap} {b : Nat} {cl l : Sl} {sz mk : Int} {cs : List Int} {lg : List Acc} {who : Int} {wt : Bool} {w : Bool} {Q : Unit → Heap → Prop}, ArS h0 h b cl l sz mk cs lg who wt →
  (∀ h', ArS h0 h' b cl l sz mk cs lg who w → Step (fpA b cl l) (fpA b cl l) h h' → Q () h') → c (some (ptr b)) w h Q
def NumC (f : Int → Nat → Int) (c : Option Addr → Heap → (Int → Heap → Prop) → Prop) : Prop := ∀ {h0 h : Heap} {b : Nat} {cl l : Sl} {sz : Int} {cs : List Int} {lg : List Acc} {who : Int} {wt : Bool} {Q : Int → Heap → Prop}, Ar h0 h b cl l sz cs lg who wt → Q (f sz cs.length) h → c (some (ptr b)) h Q
def LoadC (c : Option Addr → Int → Heap → (Den K2 → Heap → Prop) → Prop) : Prop := ∀ {h0 h : Heap} {b : Nat} {cl l : Sl} {sz : Int} {cs : List Int} {lg : List Acc} {who : Int} {wt : Bool} {addr : Int} {Q : Den K2 → Heap → Prop}, Ar h0 h b cl l sz cs lg who wt → lg.length ≤ 1000000000 → (0 ≤ addr ∧ addr < (cs.length : Int)) →
  (∀ v l' h', cs[addr.toNat]? = some v → Ar h0 h' b cl l' sz cs (wl wt lg (who, (0, (addr, (v, (0, (true, ()))))))) who wt → Step (fpA b cl l) (fpA b cl l') h h' → Q (v, (0, ())) h') → c (some (ptr b)) addr h Q
def StoreC (c : Option Addr → Int → Int → Heap → (Int → Heap → Prop) → Prop) : Prop := ∀ {h0 h : Heap} {b : Nat} {cl l : Sl} {sz : Int} {cs : List Int} {lg : List Acc} {who : Int} {wt : Bool} {addr v : Int} {Q : Int → Heap → Prop}, Ar h0 h b cl l sz cs lg who wt → lg.length ≤ 1000000000 → (0 ≤ addr ∧ addr < (cs.length : Int)) →
  (∀ l' h', Ar h0 h' b cl l' sz (cs.set addr.toNat v) (wl wt lg (who, (1, (addr, (v, (0, (true, ()))))))) who wt → Step (fpA b cl l) (fpA b cl l') h h' → Q 0 h') → c (some (ptr b)) addr v h Q
def CasC (c : Option Addr → Int → Int → Int → Heap → ((Bool × (Int × Unit)) → Heap → Prop) → Prop) : Prop := ∀ {h0 h : Heap} {b : Nat} {cl l : Sl} {sz : Int} {cs : List Int} {lg : List Acc} {who : Int} {wt : Bool} {addr x y : Int} {Q : (Bool × (Int × Unit)) → Heap → Prop}, Ar h0 h b cl l sz cs lg who wt → lg.length ≤ 1000000000 → (0 ≤ addr ∧ addr < (cs.length : Int)) →
  (∀ v l' h', cs[addr.toNat]? = some v → Ar h0 h' b cl l' sz (if v = x then cs.set addr.toNat y else cs) (wl wt lg (who, (2, (addr, (x, (y, (decide (v = x), ()))))))) who wt → Step (fpA b cl l) (fpA b cl l') h h' → Q (decide (v = x), (0, ())) h') → c (some (ptr b)) addr x y h Q
def AddC (c : Option Addr → Int → Int → Heap → (Den K2 → Heap → Prop) → Prop) : Prop := ∀ {h0 h : Heap} {b : Nat} {cl l : Sl} {sz : Int} {cs : List Int} {lg : List Acc} {who : Int} {wt : Bool} {addr d : Int} {Q : Den K2 → Heap → Prop}, Ar h0 h b cl l sz cs lg who wt → lg.length ≤ 1000000000 → (0 ≤ addr ∧ addr < (cs.length : Int)) →
  (∀ v l' h', cs[addr.toNat]? = some v → Ar h0 h' b cl l' sz (cs.set addr.toNat (w64 (v + d))) (wl wt lg (who, (3, (addr, (d, (w64 (v + d), (true, ()))))))) who wt → Step (fpA b cl l) (fpA b cl l') h h' → Q (w64 (v + d), (0, ())) h') → c (some (ptr b)) addr d h Q
def ResC (c : Option Addr → Int → Heap → (Den K2 → Heap → Prop) → Prop) : Prop := ∀ {h0 h : Heap} {b : Nat} {cl l : Sl} {sz : Int} {cs : List Int} {lg : List Acc} {who : Int} {wt : Bool} {n : Int} {Q : Den K2 → Heap → Prop}, Ar h0 h b cl l sz cs lg who wt → lg.length ≤ 1000000000 → (cs.length : Int) ≤ sz → sz ≤ 1048576 → 1 ≤ n → n ≤ sz - (cs.length : Int) →
  (∀ c' l' h', Ar h0 h' b c' l' sz (cs ++ List.replicate n.toNat 0) (wl wt lg (who, (4, ((cs.length : Int), (n, (0, (true, ()))))))) who wt → Step (fpA b cl l) (fpA b c' l') h h' → Q ((cs.length : Int), (0, ())) h') → c (some (ptr b)) n h Q

/-! ### the memory's -/
def HasC (c : Option Addr → Int → Heap → (Bool → Heap → Prop) → Prop) : Prop := ∀ {h0 h : Heap} {bm : Nat} {M : BM} {S : Nat → Prop} {k : Int} {Q : Bool → Heap → Prop}, BmR h0 bm M S h → Q (decide (0 ≤ k ∧ k < (M.n : Int))) h → c (some (ptr bm)) k h Q
theorem hasM_spec : HasC buffers_Memory_has.M := by
  rintro h0 h bm M S k Q ⟨ba, c, l, who, qs, rfl, o⟩ hQ
  refine ⟨fun _ => ⟨fun e => o.ldN ?_, fun e => ?_⟩, fun e => (by cases e)⟩
  · have e : (0 : Int) ≤ k := of_decide_eq_true e
    have : decide (k < (M.n : Int)) = decide (0 ≤ k ∧ k < (M.n : Int)) := by simp [e]
    rw [this]; exact hQ
  · have e : ¬ (0 : Int) ≤ k := of_decide_eq_false e
    rw [decide_eq_false (fun q => e q.1)] at hQ
    exact hQ
def ViewC (c : Option Addr → Int → Heap → (Option Addr → Heap → Prop) → Prop) : Prop := ∀ {h0 h : Heap} {bm : Nat} {M : BM} {S : Nat → Prop} {k : Int} {Q : Option Addr → Heap → Prop}, BmR h0 bm M S h → M.n ≤ 8 → (¬ (0 ≤ k ∧ k < (M.n : Int)) → Q none h) → (∀ j : Nat, k = j → j < M.n → Q (some (vptr bm j)) h) → c (some (ptr bm)) k h Q
theorem view_spec {ch} (iH : HasC ch) : ViewC (buffers_Memory_View.M ch) := by
  intro h0 h bm M S k Q R h8 hE hQ
  refine iH R ⟨fun e => hE ?_, fun e => ?_⟩
  · intro q; rw [decide_eq_true q] at e; cases e
  · have e : 0 ≤ k ∧ k < (M.n : Int) := by simpa using e
    obtain ⟨j, rfl⟩ := Int.eq_ofNat_of_zero_le e.1
    refine ⟨⟨e.1, by omega⟩, ?_⟩
    have := hQ j rfl (by omega)
    rw [add_none, add_none]
    simpa using this
def FlushC (c : Option Addr → Int → Heap → (Bool → Heap → Prop) → Prop) : Prop := ∀ {h0 h : Heap} {bm : Nat} {M : BM} {S : Nat → Prop} {L : Nat} {k : Int} {Q : Bool → Heap → Prop}, BmR h0 bm M S h → M.Ok L → L ≤ 1000000000 → (¬ (0 ≤ k ∧ k < (M.n : Int)) → Q false h) →
  (∀ (j : Nat) S' h', k = j → j < M.n → BmR h0 bm (M.flush j) S' h' → Step S S' h h' → Q (!(M.q j).isEmpty) h') → c (some (ptr bm)) k h Q
theorem flush_spec {ch cw cs} (iH : HasC ch) (iW : WhoC cw) (iS : StoreC cs) : FlushC (buffers_Memory_Flush.M ch cw cs) := by
  intro h0 h bm M S L k Q R ok hL hE hQ
  have h8 := ok.n8
  refine iH R ⟨fun e => ⟨fun _ => hE ?_, fun e => (by cases e)⟩, fun e => ?_⟩
  · intro q; rw [decide_eq_true q] at e; cases e
  · have e : 0 ≤ k ∧ k < (M.n : Int) := by simpa using e
    obtain ⟨j, rfl⟩ := Int.eq_ofNat_of_zero_le e.1
    have hj : j < M.n := by omega
    have hj8 : j < 8 := by omega
    have hj' : 0 ≤ (j : Int) ∧ (j : Int) < 8 := ⟨by omega, by omega⟩
    have hQ := hQ j
    obtain ⟨ba, c, l, who, qs, rfl, o⟩ := R
    refine ⟨hj', o.ldQ hj8 ⟨fun d => ?_, fun d => ?_⟩⟩
    · have hl := (o.q ⟨j, hj8⟩).len
      have d : ((qs ⟨j, hj8⟩).len : Int) = 0 := of_decide_eq_true d
      have hq : M.q j = [] := List.length_eq_zero_iff.1 (by dsimp only at hl; omega)
      have := hQ (fpB bm ba c l qs) h rfl hj ⟨ba, c, l, who, qs, rfl, by rw [BM.flush_nil hq]; exact o⟩ (.refl _ _)
      rw [hq] at this
      exact this
    · have hl := (o.q ⟨j, hj8⟩).len
      have d : ¬ ((qs ⟨j, hj8⟩).len : Int) = 0 := of_decide_eq_false d
      cases hq : M.q j with
      | nil => dsimp only at hl; rw [hq] at hl; exact absurd hl.symm (by simpa using d)
      | cons w r =>
        have hQ' := fun S' h' => hQ S' h' rfl hj
        rw [hq, BM.flush_cons hq] at hQ'
        have tl := o.q ⟨j, hj8⟩
        dsimp only at tl
        rw [hq] at tl
        have hl' := tl.len
        rw [List.length_cons] at hl'
        refine ⟨hj', o.ldQ hj8 ⟨⟨Int.le_refl _, by omega⟩, tl.arr.at (i := 0) (Int.le_refl _) (by omega) rfl fun x hx => ?_⟩⟩
        obtain rfl : w = x := by simpa using hx
        refine ⟨hj', o.ldQ hj8 ⟨⟨by omega, by omega⟩, hj', o.stQ hj8 (Ext.refl _ _) (tl.cut (sz := 2) rfl) (fun b hb => .inl (blk_cut hb)) fun h1 o1 s1 => ?_⟩⟩
        refine o1.ldA (iW o1.ar fun h2 a2 s2 => ?_)
        obtain ⟨o2, t2⟩ := o1.arena (M' := M.setq j r) a2 s2 rfl rfl rfl
        have hin : 0 ≤ w.1 ∧ w.1 < (M.cs.length : Int) := ok.qin j w (by rw [hq]; exact .head _)
        refine o2.ldA (iS o2.ar (by have := ok.lg; exact Nat.le_trans this hL) hin fun l' h3 a3 s3 => ?_)
        have a3' : Ar h0 h3 ba c l' M.sz (M.cs.set w.1.toNat w.2.1) (wl M.wt M.lg (j, (1, (w.1, (w.2.1, (0, (true, ()))))))) j M.wt := a3
        obtain ⟨o3, t3⟩ := o2.arena (M' := BM.log { M.setq j r with cs := M.cs.set w.1.toNat w.2.1 } ((j : Int), (1, (w.1, (w.2.1, (0, (true, ()))))))) a3' s3 rfl rfl rfl
        exact hQ' _ h3 ⟨_, _, _, _, _, rfl, o3⟩ ((s1.trans t2).trans t3)
def DrainC (c : Option Addr → Int → Heap → (Unit → Heap → Prop) → Prop) : Prop := ∀ {h0 h : Heap} {bm : Nat} {M : BM} {S : Nat → Prop} {L k : Nat} {Q : Unit → Heap → Prop}, BmR h0 bm M S h → M.Ok L → L + 64 ≤ 1000000000 → k < M.n →
  (∀ S' h', BmR h0 bm (M.drain k) S' h' → Step S S' h h' → Q () h') → c (some (ptr bm)) k h Q
theorem drain_spec {cf} (iF : FlushC cf) : DrainC (buffers_Memory_drain.M cf) := by
  intro h0 h bm M S L k Q R ok hL hk hQ
  have hql := ok.ql k
  have h64 := ok.r64
  refine Loop.idxB (M.q k).length (fun i _ g => ∃ S', BmR h0 bm (BM.drainN k i M) S' g ∧ Step S S' h g) ⟨S, R, .refl _ _⟩ ?_
  rintro i s g go hi ⟨S', R', s'⟩ hgo
  have oki := BM.drainN_ok (k := k) i ok
  obtain ⟨a1, a2, a3, a4, a5, a6, a7⟩ := BM.drainN_same (k := k) i M
  have hn : ∀ (i : Nat) (M : BM), BM.drainN k (i + 1) M = (BM.drainN k i M).flush k := by
    intro i
    induction i with
    | zero => intro M; rfl
    | succ i ih => intro M; rw [BM.drainN, ih]; rfl
  refine iF R' oki (by omega) (fun q => absurd ⟨by omega, by omega⟩ q) fun j S2 g2 ej hj R2 s2 => ?_
  obtain rfl : k = j := by omega
  refine ⟨fun e => ?_, fun e => ?_⟩
  · have hlt : i < (M.q k).length := by
      refine Nat.lt_of_not_le fun q => ?_
      rw [a7, List.drop_of_length_le q] at e
      cases e
    refine hgo hlt () g2 ⟨S2, ?_, s'.trans s2⟩
    rw [hn]; exact R2
  · have hnil : (BM.drainN k i M).q k = [] := by
      cases q : (BM.drainN k i M).q k with
      | nil => rfl
      | cons w r => rw [q] at e; cases e
    rw [BM.flush_nil hnil] at R2
    have hii : i = (M.q k).length := by
      rw [a7] at hnil
      have := congrArg List.length hnil
      rw [List.length_drop, List.length_nil] at this
      omega
    subst hii
    exact hQ S2 g2 R2 (s'.trans s2)
def WaitC (c : Option Addr → Int → Heap → (Sl → Heap → Prop) → Prop) : Prop := ∀ {h0 h : Heap} {bm : Nat} {M : BM} {S : Nat → Prop} {L : Nat} {k : Int} {Q : Sl → Heap → Prop}, BmR h0 bm M S h → M.Ok L → (¬ (0 ≤ k ∧ k < (M.n : Int)) → Q ⟨none, 0, 0⟩ h) → (∀ (j : Nat) s h', k = j → j < M.n → New h h' KWt s (M.q j) → Q s h') → c (some (ptr bm)) k h Q
theorem waiting_spec {ch} (iH : HasC ch) : WaitC (buffers_Memory_Waiting.M ch) := by
  intro h0 h bm M S L k Q R ok hE hQ
  have h8 := ok.n8
  refine iH R ⟨fun e => hE ?_, fun e => ?_⟩
  · intro q; rw [decide_eq_true q] at e; cases e
  · have e : 0 ≤ k ∧ k < (M.n : Int) := by simpa using e
    obtain ⟨j, rfl⟩ := Int.eq_ofNat_of_zero_le e.1
    have hj : j < M.n := by omega
    have hj8 : j < 8 := by omega
    obtain ⟨ba, c, l, who, qs, rfl, o⟩ := R
    have hl := (o.q ⟨j, hj8⟩).len
    have h1 := ok.ql j
    have h2 := ok.r64
    refine ⟨⟨by omega, by omega⟩, o.ldQ hj8 ?_⟩
    refine (New.nil h KWt).apps (o.q ⟨j, hj8⟩).arr rfl rfl (by show (0 + _) * 16 ≤ _; dsimp only at hl; omega) fun t h' n' => ?_
    exact hQ j t h' rfl hj n'

end Go.Mx
