/-
  What BuffersFenced asks for.
-/
import Derived.Test.YtppehoailhjdfabMxBp
import Derived.Test.YtppehoailhjdfabMxBn
set_option linter.unusedVariables false
set_option linter.unusedSimpArgs false
set_option linter.unusedSectionVars false
namespace Go.Mx

def GuardC (c : Sl → Heap → (Sl → Heap → Prop) → Prop) : Prop := ∀ {s : Sl} {h : Heap} {ts : List AMv} {Q : Sl → Heap → Prop}, Arr h KMv s ts → ts.length ≤ 1000 → (∀ t h', New h h' KMv t (guardP ts) → Q t h') → c s h Q
theorem guard_snoc {l : List AMv} {i : Nat} (h : i < l.length) : guardP (l.take (i + 1)) = guardP (l.take i) ++ (l[i] :: (if l[i].2.1 = 1 then [fenceA] else [])) := by
  unfold guardP
  rw [take_succ' l h, List.flatMap_append]; simp




def ToldC (c : Int → AMv → Eff → Heap → (Acc → Heap → Prop) → Prop) : Prop := ∀ {w : Int} {t : AMv} {f : Eff} {h : Heap} {Q : Acc → Heap → Prop}, Q (toldP w t f) h → c w t f h Q
def AsActC (c : Sl → Heap → (Sl → Heap → Prop) → Prop) : Prop := ∀ {s : Sl} {h : Heap} {xs : List Acc} {Q : Sl → Heap → Prop}, Arr h KAcc s xs → xs.length ≤ 1000000 → (∀ t h', New h h' KMv t (xs.map asAct) → Q t h') → c s h Q


def SameLC (c : Sl → Sl → Heap → (Bool → Heap → Prop) → Prop) : Prop := ∀ {a b : Sl} {h : Heap} {xs : List (Den KAcc)} {Q : Bool → Heap → Prop}, Arr h KAcc a xs → Arr h KAcc b xs → xs.length ≤ 1000000000 → Q true h → c a b h Q
theorem sameLog_spec : SameLC law21_sameLog.M := by
  intro a b h xs Q ha hb hn hQ
  have h1 := ha.1
  have h2 := hb.1
  refine ⟨fun e => absurd (of_decide_eq_true e) (by omega), fun _ => ?_⟩
  refine Loop.up xs.length (fun s => s.1) (fun i _ g => g = h) rfl rfl ?_
  rintro i ⟨i', u⟩ g go hi hc rfl hgo
  dsimp only at hc; subst hc
  refine ⟨fun e => ?_, fun _ => hQ⟩
  have e : (i : Int) < (a.len : Int) := of_decide_eq_true e
  have hlt : i < xs.length := by omega
  obtain ⟨aa, an, ac⟩ := a
  obtain ⟨ba, bn, bc⟩ := b
  dsimp only at h1 h2 e
  cases aa with
  | none => obtain ⟨a, e⟩ := ha.addr (by dsimp only; omega); cases e
  | some aa =>
  cases ba with
  | none => obtain ⟨a, e⟩ := hb.addr (by dsimp only; omega); cases e
  | some ba =>
  refine ⟨⟨by omega, by dsimp only; omega⟩, ⟨by omega, by dsimp only; omega⟩, ha.atA (i := (i : Int)) (by omega) (by omega) rfl fun x hx => hb.atA (i := (i : Int)) (by omega) (by omega) rfl fun y hy => ?_⟩
  rw [hx] at hy
  cases hy
  refine ⟨fun d => ?_, fun _ => hgo hlt _ _ (by show w64 ((i : Int) + 1) = _; rw [w64_of] <;> omega) rfl⟩
  rw [eqK_refl KAcc x rfl] at d
  cases d

def SameNC (c : Sl → Sl → Heap → (Bool → Heap → Prop) → Prop) : Prop := ∀ {a b : Sl} {h : Heap} {xs : List (Den ki)} {Q : Bool → Heap → Prop}, Arr h ki a xs → Arr h ki b xs → xs.length ≤ 1000000000 → Q true h → c a b h Q
theorem sameNumbers_spec : SameNC law21_sameNumbers.M := by
  intro a b h xs Q ha hb hn hQ
  have h1 := ha.1
  have h2 := hb.1
  refine ⟨fun e => absurd (of_decide_eq_true e) (by omega), fun _ => ?_⟩
  refine Loop.up xs.length (fun s => s.1) (fun i _ g => g = h) rfl rfl ?_
  rintro i ⟨i', u⟩ g go hi hc rfl hgo
  dsimp only at hc; subst hc
  refine ⟨fun e => ?_, fun _ => hQ⟩
  have e : (i : Int) < (a.len : Int) := of_decide_eq_true e
  have hlt : i < xs.length := by omega
  obtain ⟨aa, an, ac⟩ := a
  obtain ⟨ba, bn, bc⟩ := b
  dsimp only at h1 h2 e
  cases aa with
  | none => obtain ⟨a, e⟩ := ha.addr (by dsimp only; omega); cases e
  | some aa =>
  cases ba with
  | none => obtain ⟨a, e⟩ := hb.addr (by dsimp only; omega); cases e
  | some ba =>
  refine ⟨⟨by omega, by dsimp only; omega⟩, ⟨by omega, by dsimp only; omega⟩, ha.atA (i := (i : Int)) (by omega) (by omega) rfl fun x hx => hb.atA (i := (i : Int)) (by omega) (by omega) rfl fun y hy => ?_⟩
  rw [hx] at hy
  cases hy
  refine ⟨fun d => ?_, fun _ => hgo hlt _ _ (by show w64 ((i : Int) + 1) = _; rw [w64_of] <;> omega) rfl⟩
  exact absurd rfl (of_decide_eq_true d)


theorem crun_pre (sz : Int) (l0 : List Acc) : ∀ (ts : List AMv) (c : List Int) (l : List Acc) (e e' : List Eff), (CA.run sz ⟨c, l0 ++ l, e⟩ ts).cs = (CA.run sz ⟨c, l, e'⟩ ts).cs ∧ (CA.run sz ⟨c, l0 ++ l, e⟩ ts).lg = l0 ++ (CA.run sz ⟨c, l, e'⟩ ts).lg
  | [], _, _, _, _ => ⟨rfl, rfl⟩
  | t :: ts, c, l, e, e' => by
    have key : ∀ l2, (CA.run sz ⟨(cact sz c t).1, l0 ++ l2, e ++ [(cact sz c t).2]⟩ ts).cs = (CA.run sz ⟨(cact sz c t).1, l2, e' ++ [(cact sz c t).2]⟩ ts).cs ∧ (CA.run sz ⟨(cact sz c t).1, l0 ++ l2, e ++ [(cact sz c t).2]⟩ ts).lg = l0 ++ (CA.run sz ⟨(cact sz c t).1, l2, e' ++ [(cact sz c t).2]⟩ ts).lg := fun l2 => crun_pre sz l0 ts _ l2 _ _
    show (CA.run sz (CA.step sz ⟨c, l0 ++ l, e⟩ t) ts).cs = (CA.run sz (CA.step sz ⟨c, l, e'⟩ t) ts).cs ∧ (CA.run sz (CA.step sz ⟨c, l0 ++ l, e⟩ t) ts).lg = l0 ++ (CA.run sz (CA.step sz ⟨c, l, e'⟩ t) ts).lg
    unfold CA.step
    dsimp only
    by_cases q : (cact sz c t).2.2.2.1 = 0
    · rw [if_pos q, if_pos q, List.append_assoc]; exact key _
    · rw [if_neg q, if_neg q]; exact key _
def headL (u : Int) : List Acc := if 0 < u then [(0, (4, (0, (u, (0, (true, ()))))))] else []
theorem rep_opn {sz u : Int} (h0 : 0 ≤ u) (h1 : u ≤ sz) {cs : List Int} {lg : List Acc} (r : RepI sz (List.replicate u.toNat 0) cs lg) : (CA.run sz ⟨[], [], []⟩ (opn u (lg.map asAct))).cs = cs ∧ (CA.run sz ⟨[], [], []⟩ (opn u (lg.map asAct))).lg = headL u ++ lg := by
  unfold opn headL
  by_cases q : 0 < u
  · rw [if_pos q, if_pos q]
    have hc : cact sz [] (0, (4, (0, (u, (0, ()))))) = (List.replicate u.toNat 0, ef 0 0) := by
      unfold cact
      dsimp only
      rw [if_neg (by decide), if_neg (by decide), if_neg (by decide), if_neg (by decide), if_pos rfl, if_neg (show ¬ u < 1 by omega), if_neg (show ¬ sz - ((([] : List Int).length : Nat) : Int) < u by rw [List.length_nil]; omega)]
      rfl
    have e : CA.run sz ⟨[], [], []⟩ ([(0, (4, (0, (u, (0, ())))))] ++ lg.map asAct) = CA.run sz ⟨List.replicate u.toNat 0, [(0, (4, (0, (u, (0, (true, ()))))))] ++ [], [ef 0 0]⟩ (lg.map asAct) := by
      show CA.run sz (CA.step sz ⟨[], [], []⟩ (0, (4, (0, (u, (0, ())))))) _ = _
      unfold CA.step
      rw [hc]; rfl
    rw [e]
    obtain ⟨a, b⟩ := crun_pre sz [(0, (4, (0, (u, (0, (true, ()))))))] (lg.map asAct) (List.replicate u.toNat 0) [] [ef 0 0] []
    exact ⟨a.trans r.1, b.trans (by rw [r.2])⟩
  · rw [if_neg q, if_neg q]
    obtain rfl : u = 0 := by omega
    exact r

def WhoI (n : Nat) (M : BM) : Prop := ∀ a ∈ M.lg, ∃ k : Nat, a.1 = (k : Int) ∧ k < n
theorem WhoI.log {n : Nat} {M : BM} (r : WhoI n M) {k : Nat} (hk : k < n) (cs : List Int) (a : Acc) (ha : a.1 = (k : Int)) : WhoI n (BM.log { M with cs := cs } a) := by
  intro b hb
  have hb : b ∈ wl M.wt M.lg a := hb
  unfold wl at hb
  split at hb
  · rcases List.mem_append.1 hb with hb | hb
    · exact r b hb
    · obtain rfl : b = a := by simpa using hb
      exact ⟨k, ha, hk⟩
  · exact r b hb
theorem WhoI.flush {n L : Nat} {M : BM} (ok : M.Ok L) (hn : M.n = n) (r : WhoI n M) (k : Nat) : WhoI n (M.flush k) := by
  cases e : M.q k with
  | nil => rw [BM.flush_nil e]; exact r
  | cons w q =>
    rw [BM.flush_cons e]
    exact WhoI.log (M := M.setq k q) r (hn ▸ ok.lt (by rw [e]; exact fun q => by cases q)) _ _ rfl
theorem WhoI.drainN {n k : Nat} : ∀ (i : Nat) {M : BM} {L : Nat}, M.Ok L → M.n = n → WhoI n M → WhoI n (BM.drainN k i M)
  | 0, _, _, _, _, r => r
  | i + 1, M, L, ok, hn, r => WhoI.drainN i (ok.flush k) ((M.flush_same k).1.trans hn) (r.flush ok hn k)
theorem WhoI.act {n L k : Nat} {M : BM} (ok : M.Ok L) (hn : M.n = n) (r : WhoI n M) (hk : k < n) (t : AMv) : WhoI n (M.act k t).1 := by
  have rd : WhoI n (M.drain k) := WhoI.drainN _ ok hn r
  unfold BM.act
  split
  · unfold BM.load
    split
    · split
      · exact r
      · exact WhoI.log (M := M) r hk M.cs _ rfl
    · exact r
  split
  · unfold BM.store
    split
    · dsimp only
      split
      · exact r.flush ok hn k
      · exact r
    · exact r
  split
  · unfold BM.cas
    split
    · exact WhoI.log (M := M.drain k) rd hk _ _ rfl
    · exact r
  split
  · unfold BM.add
    split
    · exact WhoI.log (M := M.drain k) rd hk _ _ rfl
    · exact r
  split
  · unfold BM.reserve
    split
    · exact r
    split
    · exact r
    · exact WhoI.log (M := M.drain k) rd hk _ _ rfl
  split
  · exact rd
  · exact r
theorem WhoI.run {n : Nat} {ls : List (List AMv)} (hl : ls.length = n) : ∀ (ps : List Int) {s : PB} {L : Nat}, s.Ok ls L → WhoI n s.m → WhoI n (PB.run ls s ps).m
  | [], _, _, _, r => r
  | x :: ps, s, L, ok, r => by
    refine WhoI.run hl ps (ok.step x) ?_
    unfold PB.step
    dsimp only
    split
    · exact r.flush ok.m (ok.n.trans hl) _
    · split
      · exact r.act ok.m (ok.n.trans hl) (by omega) _
      · exact r

end Go.Mx
