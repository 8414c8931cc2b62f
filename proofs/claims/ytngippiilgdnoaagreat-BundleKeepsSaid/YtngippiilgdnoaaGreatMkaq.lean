/-
  The reference's spells of a subscription, plainly: they are what spells are.
-/
import Derived.Test.YtngippiilgdnoaaGreatMkap
import Derived.Test.YtngippiilgdnoaaGreatMkak
set_option maxRecDepth 100000
set_option maxHeartbeats 25600000
namespace Go.Proofs.YtngippiilgdnoaaGreat
def zeroS : Sb := ⟨0, 0, 0, ⟨#[]⟩, [], [], false, false⟩
def nextS (s : Sb) (e : Ev) : Sb :=
 if e.kd = 3 then ⟨e.sb, e.ac, e.tm, e.nm, [], [], false, false⟩
 else if e.kd = 4 then zeroS
 else if e.kd = 7 then { s with plan := e.nm }
 else if e.kd = 8 then { s with prs := withT s.prs e.nm }
 else if e.kd = 9 then { s with prs := withoutT s.prs e.nm }
 else if e.kd = 10 ∨ e.kd = 11 then { s with su := decide (e.kd = 10) }
 else if e.kd = 12 ∨ e.kd = 13 then { s with fa := decide (e.kd = 12) }
 else s
def foldS (n : Int) (l : List Ev) : Sb := l.foldl (fun s e => if e.sb = n then nextS s e else s) zeroS
theorem foldS_snoc (n : Int) (l : List Ev) (e : Ev) : foldS n (l ++ [e]) = if e.sb = n then nextS (foldS n l) e else foldS n l := by
 unfold foldS; rw [List.foldl_append]; rfl
theorem foldS_take (n : Int) (l : List Ev) (k : Nat) (h : k < l.length) : foldS n (l.take (k + 1)) = if (l[k]).sb = n then nextS (foldS n (l.take k)) l[k] else foldS n (l.take k) := by
 rw [List.take_succ_eq_append_getElem h, foldS_snoc]
theorem changedS_id (s : Sb) (e : Ev) : (changedS s e).id = s.id := by
 unfold changedS
 repeat' split
 all_goals rfl
theorem apply_keep {b : Bk} {e : Ev} (h1 : e.kd = 1 ∨ e.kd = 2 ∨ 14 ≤ e.kd) : (applyB b e).subs = b.subs ∧ (applyB b e).ended = b.ended := by
 unfold applyB
 rcases h1 with h | h | h
 · rw [if_pos h]; exact ⟨rfl, rfl⟩
 · rw [if_neg (by omega), if_pos h]; exact ⟨rfl, rfl⟩
 rw [if_neg (by omega), if_neg (by omega), if_neg (by omega), if_pos h]; exact ⟨rfl, rfl⟩
theorem apply_add {b : Bk} {e : Ev} (h : e.kd = 3) : (applyB b e).subs = b.subs ++ [⟨e.sb, e.ac, e.tm, e.nm, [], [], false, false⟩] ∧ (applyB b e).ended = b.ended := by
 unfold applyB
 rw [if_neg (by omega), if_neg (by omega), if_pos h]; exact ⟨rfl, rfl⟩
theorem apply_other {b : Bk} {e : Ev} (h1 : 4 ≤ e.kd) (h2 : e.kd ≤ 13) : (applyB b e).subs = b.subs.modify (subIx b e.sb).toNat (fun s => changedS s e) ∧ (applyB b e).ended = if e.kd = 4 then b.ended ++ [e.sb] else b.ended := by
 unfold applyB
 rw [if_neg (by omega), if_neg (by omega), if_neg (by omega), if_neg (by omega)]; exact ⟨rfl, rfl⟩
theorem nextS_none {e : Ev} (s : Sb) (h : e.kd = 1 ∨ e.kd = 2 ∨ 14 ≤ e.kd) : nextS s e = s := by
 unfold nextS
 rw [if_neg (by omega), if_neg (by omega), if_neg (by omega), if_neg (by omega), if_neg (by omega), if_neg (by omega), if_neg (by omega)]
theorem ev_zero {b : Bk} {last : Int} {e : Ev} (hok : OkEv b last e) (h : e.sb = 0) (s : Sb) : nextS s e = s := by
 have hk1 := hok.k1
 have hk2 := hok.k2
 refine nextS_none s ?_
 cases hu : usesS e.kd with
 | true => have := hok.s1 hu; omega
 | false =>
   unfold usesS at hu
   simp at hu
   omega
theorem sorted_run {l : List Ev} (hr : OkRun l) : ∀ i j (hi : i < l.length) (hj : j < l.length), i ≤ j → (l[i]).tm ≤ (l[j]).tm := by
 intro i j hi hj hij
 induction j with
 | zero => obtain rfl : i = 0 := by omega
           exact Int.le_refl _
 | succ j ih =>
   by_cases h : i = j + 1
   · subst h; exact Int.le_refl _
   have h1 := ih (by omega) (by omega)
   have h2 := (hr (j + 1) hj).t2
   have e1 : lastOfE l (j + 1) = (l[j]'(by omega)).tm := by
    show (l.getD j default).tm = _
    simp [List.getD, show j < l.length by omega]
   rw [e1] at h2
   omega
def uptoE (l : List Ev) (t : Int) : List Ev := l.filter fun e => decide (e.tm ≤ t)
def stAt (n : Int) (l : List Ev) (t : Int) : Sb := foldS n (uptoE l t)
theorem stAt_take {n : Int} {l : List Ev} (h : ∀ i j (hi : i < l.length) (hj : j < l.length), i ≤ j → (l[i]).tm ≤ (l[j]).tm) (k : Nat) (hk : k < l.length) (t : Int) :
 stAt n (l.take (k + 1)) t = if (l[k]).sb = n ∧ (l[k]).tm ≤ t then nextS (foldS n (l.take k)) l[k] else stAt n (l.take k) t := by
 unfold stAt uptoE
 rw [List.take_succ_eq_append_getElem hk, List.filter_append]
 by_cases ht : (l[k]).tm ≤ t
 · have e1 : ([l[k]].filter fun e => decide (e.tm ≤ t)) = [l[k]] := by simp [ht]
   have e2 : ((l.take k).filter fun e => decide (e.tm ≤ t)) = l.take k := by
    rw [List.filter_eq_self]
    intro x hx
    obtain ⟨j, hj, rfl⟩ := List.mem_take_iff_getElem.1 hx
    have := h j k (by omega) hk (by omega)
    simp; omega
   rw [e1, e2, foldS_snoc]
   by_cases hs : (l[k]).sb = n
   · rw [if_pos hs, if_pos ⟨hs, ht⟩]
   rw [if_neg hs, if_neg (fun h => hs h.1)]
 have e1 : ([l[k]].filter fun e => decide (e.tm ≤ t)) = [] := by simp; omega
 rw [e1, List.append_nil, if_neg (fun h => ht h.2)]
def valF (M : List (Int × Sb)) (x : Int) : Sb := M.foldl (fun v p => if p.1 ≤ x then p.2 else v) zeroS
theorem valF_snoc (M : List (Int × Sb)) (p : Int × Sb) (x : Int) : valF (M ++ [p]) x = if p.1 ≤ x then p.2 else valF M x := by
 unfold valF; rw [List.foldl_append]; rfl
def putM (M : List (Int × Sb)) (t : Int) (s : Sb) : List (Int × Sb) := match M.getLast? with
 | some q => if q.1 = t then M.dropLast ++ [(t, s)] else M ++ [(t, s)]
 | none => [(t, s)]
theorem putM_nil (t : Int) (s : Sb) : putM [] t s = [(t, s)] := rfl
theorem putM_eq (M : List (Int × Sb)) (q s : Sb) (t : Int) : putM (M ++ [(t, q)]) t s = M ++ [(t, s)] := by
 unfold putM
 simp
theorem putM_ne (M : List (Int × Sb)) (q : Int × Sb) (t : Int) (s : Sb) (h : q.1 ≠ t) : putM (M ++ [q]) t s = M ++ [q] ++ [(t, s)] := by
 unfold putM
 simp [h]
def momStep (n : Int) (st : List (Int × Sb) × Sb) (e : Ev) : List (Int × Sb) × Sb := if n = 0 ∨ e.sb ≠ n then st else (putM st.1 e.tm (nextS st.2 e), nextS st.2 e)
def momF (n : Int) (l : List Ev) : List (Int × Sb) × Sb := l.foldl (momStep n) ([], zeroS)
theorem momF_take (n : Int) (l : List Ev) (k : Nat) (h : k < l.length) : momF n (l.take (k + 1)) = momStep n (momF n (l.take k)) l[k] := by
 unfold momF; rw [List.take_succ_eq_append_getElem h, List.foldl_append]; rfl
theorem momStep_no {n : Int} {st : List (Int × Sb) × Sb} {e : Ev} (h : n = 0 ∨ e.sb ≠ n) : momStep n st e = st := if_pos h
theorem momStep_yes {n : Int} {st : List (Int × Sb) × Sb} {e : Ev} (h1 : n ≠ 0) (h2 : e.sb = n) : momStep n st e = (putM st.1 e.tm (nextS st.2 e), nextS st.2 e) := if_neg (by simp [h1, h2])
theorem putM_len (M : List (Int × Sb)) (t : Int) (s : Sb) : (putM M t s).length ≤ M.length + 1 := by
 unfold putM
 split
 · split
   iterate 2
    · simp
 simp
theorem momF_len (n : Int) (l : List Ev) (k : Nat) (hk : k ≤ l.length) : (momF n (l.take k)).1.length ≤ k := by
 induction k with
 | zero => simp [momF]
 | succ k ih =>
   rw [momF_take n l k (by omega)]
   unfold momStep
   split
   · have := ih (by omega); omega
   have := ih (by omega)
   have := putM_len (momF n (l.take k)).1 (l[k]'(by omega)).tm (nextS (momF n (l.take k)).2 (l[k]'(by omega)))
   dsimp only
   omega
def AscM (M : List (Int × Sb)) : Prop := M.Pairwise (fun a b => a.1 < b.1)
theorem ascM_snoc (M : List (Int × Sb)) (p : Int × Sb) : AscM (M ++ [p]) ↔ AscM M ∧ ∀ q ∈ M, q.1 < p.1 := by
 unfold AscM
 rw [List.pairwise_append]
 simp
theorem putM_law (M : List (Int × Sb)) (t : Int) (s : Sb) (hM : AscM M) (hq : ∀ q ∈ M, q.1 ≤ t) :
 AscM (putM M t s) ∧ (∀ q ∈ putM M t s, q.1 = t ∨ q ∈ M) ∧ ∀ x, valF (putM M t s) x = if t ≤ x then s else valF M x := by
 by_cases h : M = []
 · subst h
   rw [putM_nil]
   exact ⟨List.pairwise_singleton _ _, fun q hq => Or.inl (by rw [List.mem_singleton.1 hq]), fun x => valF_snoc [] (t, s) x⟩
 obtain ⟨K, ⟨u, q⟩, rfl⟩ : ∃ K z, M = K ++ [z] := ⟨_, _, (List.dropLast_concat_getLast h).symm⟩
 obtain ⟨c1, c2⟩ := (ascM_snoc K (u, q)).1 hM
 by_cases hz : u = t
 · subst hz
   rw [putM_eq]
   refine ⟨(ascM_snoc K (u, s)).2 ⟨c1, c2⟩, fun p hp => ?_, fun x => ?_⟩
   · rcases List.mem_append.1 hp with hp | hp
     · exact Or.inr (List.mem_append_left _ hp)
     rw [List.mem_singleton.1 hp]; exact Or.inl rfl
   rw [valF_snoc, valF_snoc]
   dsimp only
   split <;> rfl
 rw [putM_ne K (u, q) t s hz]
 refine ⟨(ascM_snoc _ (t, s)).2 ⟨hM, fun p hp => ?_⟩, fun p hp => ?_, fun x => valF_snoc _ _ x⟩
 · have := hq p hp
   rcases List.mem_append.1 hp with hp' | hp'
   · have := c2 p hp'
     have := hq (u, q) (by simp)
     dsimp only at *
     omega
   rw [List.mem_singleton.1 hp'] at this ⊢
   dsimp only at *
   omega
 rcases List.mem_append.1 hp with hp | hp
 · exact Or.inr hp
 rw [List.mem_singleton.1 hp]; exact Or.inl rfl
theorem momF_law {l : List Ev} (hr : OkRun l) (n : Int) : ∀ k, k ≤ l.length →
 AscM (momF n (l.take k)).1 ∧ (∀ q ∈ (momF n (l.take k)).1, ∃ i, ∃ hi : i < l.length, i < k ∧ q.1 = (l[i]).tm) ∧ (∀ x, valF (momF n (l.take k)).1 x = stAt n (l.take k) x) ∧ (momF n (l.take k)).2 = foldS n (l.take k)
 | 0, _ => by
   rw [List.take_zero]
   exact ⟨List.Pairwise.nil, fun q hq => (by cases hq), fun x => rfl, rfl⟩
 | k + 1, hk => by
   obtain ⟨h1, h2, h3, h4⟩ := momF_law hr n k (by omega)
   have h := sorted_run hr
   rw [momF_take n l k (by omega), foldS_take n l k (by omega)]
   by_cases hn : n = 0
   · subst hn
     rw [momStep_no (Or.inl rfl)]
     have hz := ev_zero (hr k (by omega))
     refine ⟨h1, fun q hq => ?_, fun x => ?_, ?_⟩
     · obtain ⟨i, hi, hik, e⟩ := h2 q hq
       exact ⟨i, hi, by omega, e⟩
     · rw [h3, stAt_take h k (by omega)]
       split
       · rename_i hc
         rw [hz hc.1]
         unfold stAt
         have e2 : uptoE (l.take k) x = l.take k := by
          unfold uptoE
          rw [List.filter_eq_self]
          intro y hy
          obtain ⟨j, hj, rfl⟩ := List.mem_take_iff_getElem.1 hy
          have := h j k (by omega) (by omega) (by omega)
          simp; omega
         rw [e2]
       rfl
     rw [h4]
     split
     · rename_i hc
       rw [hz hc]
     rfl
   by_cases hs : (l[k]'(by omega)).sb = n
   · rw [momStep_yes hn hs, if_pos hs]
     have hq : ∀ q ∈ (momF n (l.take k)).1, q.1 ≤ (l[k]'(by omega)).tm := fun q hq => by
      obtain ⟨i, hi, hik, e⟩ := h2 q hq
      rw [e]
      exact h i k hi (by omega) (by omega)
     obtain ⟨g1, g2, g3⟩ := putM_law _ (l[k]'(by omega)).tm (nextS (momF n (l.take k)).2 (l[k]'(by omega))) h1 hq
     refine ⟨g1, fun q hq => ?_, fun x => ?_, by rw [h4]⟩
     · rcases g2 q hq with e | hq
       · exact ⟨k, by omega, by omega, e⟩
       obtain ⟨i, hi, hik, e⟩ := h2 q hq
       exact ⟨i, hi, by omega, e⟩
     rw [g3, stAt_take h k (by omega), h3, h4]
     by_cases hx : (l[k]'(by omega)).tm ≤ x
     · rw [if_pos hx, if_pos ⟨hs, hx⟩]
     rw [if_neg hx, if_neg (fun h => hx h.2)]
   rw [momStep_no (Or.inr hs), if_neg hs]
   refine ⟨h1, fun q hq => ?_, fun x => ?_, h4⟩
   · obtain ⟨i, hi, hik, e⟩ := h2 q hq
     exact ⟨i, hi, by omega, e⟩
   rw [h3, stAt_take h k (by omega), if_neg (fun h => hs h.1)]
def alikeTs (a b : List ByteArray) : Bool := decide (a.length = b.length) && (a.zip b).all fun p => sameS p.1 p.2
theorem alikeTs_iff : ∀ (a b : List ByteArray), alikeTs a b = true ↔ a = b
 | [], [] => by simp [alikeTs]
 | [], _ :: _ => by simp [alikeTs]
 | _ :: _, [] => by simp [alikeTs]
 | x :: a, y :: b => by
   have ih := alikeTs_iff a b
   unfold alikeTs at ih ⊢
   rw [Bool.and_eq_true, decide_eq_true_eq] at ih
   rw [List.zip_cons_cons, List.all_cons, Bool.and_eq_true, Bool.and_eq_true, decide_eq_true_eq, sameS_iff, List.cons.injEq, ← ih, List.length_cons, List.length_cons]
   constructor
   · rintro ⟨h1, h2, h3⟩; exact ⟨h2, by omega, h3⟩
   rintro ⟨h1, h2, h3⟩; exact ⟨by omega, h1, h3⟩
def view (s : Sb) : Sb := { s with ac := 0, si := 0, nus := [] }
def alikeB (a b : Sb) : Bool := decide (a.id = b.id) && sameS a.plan b.plan && (a.su == b.su) && (a.fa == b.fa) && alikeTs a.prs b.prs
theorem alikeB_iff (a b : Sb) : alikeB a b = true ↔ view a = view b := by
 unfold alikeB view
 obtain ⟨a1, a2, a3, a4, a5, a6, a7, a8⟩ := a
 obtain ⟨b1, b2, b3, b4, b5, b6, b7, b8⟩ := b
 simp only [Bool.and_eq_true, decide_eq_true_eq, sameS_iff, alikeTs_iff, beq_iff_eq, Sb.mk.injEq]
 constructor
 · rintro ⟨⟨⟨⟨h1, h2⟩, h3⟩, h4⟩, h5⟩; exact ⟨h1, trivial, trivial, h2, trivial, h5, h3, h4⟩
 rintro ⟨h1, -, -, h2, -, h5, h3, h4⟩; exact ⟨⟨⟨⟨h1, h2⟩, h3⟩, h4⟩, h5⟩
theorem view_id {a b : Sb} (h : view a = view b) : a.id = b.id ∧ a.prs = b.prs ∧ a.su = b.su ∧ a.fa = b.fa ∧ a.plan = b.plan :=
 ⟨congrArg (·.id) h, congrArg (·.prs) h, congrArg (·.su) h, congrArg (·.fa) h, congrArg (·.plan) h⟩
def jmStep (O : List (Int × Sb)) (p : Int × Sb) : List (Int × Sb) := match O.getLast? with
 | some q => if alikeB q.2 p.2 = true then O else O ++ [p]
 | none => [p]
theorem jmStep_nil (p : Int × Sb) : jmStep [] p = [p] := rfl
theorem jmStep_eq (K : List (Int × Sb)) (q p : Int × Sb) (h : alikeB q.2 p.2 = true) : jmStep (K ++ [q]) p = K ++ [q] := by
 unfold jmStep; simp [h]
theorem jmStep_ne (K : List (Int × Sb)) (q p : Int × Sb) (h : alikeB q.2 p.2 = false) : jmStep (K ++ [q]) p = K ++ [q] ++ [p] := by
 unfold jmStep; simp [h]
def jmL (M : List (Int × Sb)) : List (Int × Sb) := M.foldl jmStep []
theorem jmL_snoc (M : List (Int × Sb)) (p : Int × Sb) : jmL (M ++ [p]) = jmStep (jmL M) p := by unfold jmL; rw [List.foldl_append]; rfl
theorem jmL_take (M : List (Int × Sb)) (k : Nat) (h : k < M.length) : jmL (M.take (k + 1)) = jmStep (jmL (M.take k)) M[k] := by
 rw [List.take_succ_eq_append_getElem h, jmL_snoc]
theorem jmStep_len (O : List (Int × Sb)) (p : Int × Sb) : (jmStep O p).length ≤ O.length + 1 := by
 unfold jmStep
 split
 · split
   · omega
   simp
 simp
theorem jmL_len (M : List (Int × Sb)) (k : Nat) (hk : k ≤ M.length) : (jmL (M.take k)).length ≤ k := by
 induction k with
 | zero => simp [jmL]
 | succ k ih =>
   rw [jmL_take M k (by omega)]
   have := ih (by omega)
   have := jmStep_len (jmL (M.take k)) (M[k]'(by omega))
   omega
theorem jmL_law (M : List (Int × Sb)) (hM : AscM M) : ∀ k, k ≤ M.length → AscM (jmL (M.take k)) ∧ (∀ q ∈ jmL (M.take k), q ∈ M.take k) ∧ ∀ x, view (valF (jmL (M.take k)) x) = view (valF (M.take k) x)
 | 0, _ => by
   rw [List.take_zero]
   exact ⟨List.Pairwise.nil, fun q hq => (by cases hq), fun x => rfl⟩
 | k + 1, hk => by
   obtain ⟨h1, h2, h3⟩ := jmL_law M hM k (by omega)
   have hlt : ∀ q ∈ M.take k, q.1 < (M[k]'(by omega)).1 := fun q hq => by
    obtain ⟨j, hj, rfl⟩ := List.mem_take_iff_getElem.1 hq
    exact List.pairwise_iff_getElem.1 hM j k (by omega) (by omega) (by omega)
   rw [jmL_take M k (by omega), List.take_succ_eq_append_getElem (by omega)]
   generalize M[k]'(by omega) = p at hlt ⊢
   by_cases h : jmL (M.take k) = []
   · rw [h] at h3 ⊢
     rw [jmStep_nil]
     refine ⟨List.pairwise_singleton _ _, fun q hq => by rw [List.mem_singleton.1 hq]; simp, fun x => ?_⟩
     rw [valF_snoc, show valF [p] x = if p.1 ≤ x then p.2 else zeroS from rfl]
     split
     · rfl
     exact h3 x
   obtain ⟨K, q, hK⟩ : ∃ K z, jmL (M.take k) = K ++ [z] := ⟨_, _, (List.dropLast_concat_getLast h).symm⟩
   rw [hK] at h1 h2 h3 ⊢
   cases ha : alikeB q.2 p.2 with
   | true =>
     rw [jmStep_eq K q p ha]
     refine ⟨h1, fun z hz => List.mem_append_left _ (h2 z hz), fun x => ?_⟩
     have hq := hlt q (h2 q (by simp))
     by_cases hx : p.1 ≤ x
     · rw [valF_snoc K q x, if_pos (by omega), valF_snoc (M.take k) p x, if_pos hx]
       exact (alikeB_iff _ _).1 ha
     rw [valF_snoc (M.take k) p x, if_neg hx]
     exact h3 x
   | false =>
     rw [jmStep_ne K q p ha]
     refine ⟨(ascM_snoc _ p).2 ⟨h1, fun z hz => hlt z (h2 z hz)⟩, fun z hz => ?_, fun x => ?_⟩
     · rcases List.mem_append.1 hz with hz | hz
       · exact List.mem_append_left _ (h2 z hz)
       exact List.mem_append_right _ hz
     rw [valF_snoc (K ++ [q]) p x, valF_snoc (M.take k) p x]
     split
     · rfl
     exact h3 x
theorem valF_far (x : Int) : ∀ (R : List (Int × Sb)) (v : Sb), (∀ q ∈ R, x < q.1) → R.foldl (fun v p => if p.1 ≤ x then p.2 else v) v = v
 | [], _, _ => rfl
 | p :: R, v, h => by
   rw [List.foldl_cons, if_neg (by have := h p List.mem_cons_self; omega)]
   exact valF_far x R v (fun q hq => h q (List.mem_cons_of_mem _ hq))
theorem valF_at {M : List (Int × Sb)} (hM : AscM M) {i : Nat} (hi : i < M.length) {x : Int} (h1 : (M[i]).1 ≤ x) (h2 : ∀ h : i + 1 < M.length, x < (M[i + 1]).1) : valF M x = (M[i]).2 := by
 have e : M = M.take (i + 1) ++ M.drop (i + 1) := (List.take_append_drop _ _).symm
 have hd : ∀ q ∈ M.drop (i + 1), x < q.1 := fun q hq => by
  obtain ⟨j, hj, rfl⟩ := List.mem_iff_getElem.1 hq
  rw [List.getElem_drop]
  rw [List.length_drop] at hj
  have h3 := h2 (by omega)
  by_cases hj0 : j = 0
  · subst hj0; exact h3
  have := List.pairwise_iff_getElem.1 hM (i + 1) (i + 1 + j) (by omega) (by omega) (by omega)
  omega
 have e2 : valF M x = (M.drop (i + 1)).foldl (fun v p => if p.1 ≤ x then p.2 else v) (valF (M.take (i + 1)) x) := by
  conv => lhs; rw [e]
  unfold valF
  rw [List.foldl_append]
 rw [e2, valF_far x _ _ hd, List.take_succ_eq_append_getElem hi, valF_snoc, if_pos h1]
theorem valF_cases (x : Int) : ∀ (k : Nat) (M : List (Int × Sb)), M.length = k → AscM M → (∀ q ∈ M, x < q.1) ∨ ∃ i, ∃ hi : i < M.length, (M[i]).1 ≤ x ∧ ∀ h : i + 1 < M.length, x < (M[i + 1]).1
 | 0, M, hk, _ => Or.inl fun q hq => by rw [List.length_eq_zero_iff.1 hk] at hq; cases hq
 | k + 1, M, hk, hM => by
   obtain ⟨K, p, rfl⟩ : ∃ K z, M = K ++ [z] := ⟨_, _, (List.dropLast_concat_getLast (l := M) (by rintro rfl; cases hk)).symm⟩
   rw [List.length_append, List.length_singleton] at hk
   obtain ⟨h1, h2⟩ := (ascM_snoc K p).1 hM
   by_cases hp : p.1 ≤ x
   · exact Or.inr ⟨K.length, by simp, by simpa using hp, fun h => by simp at h⟩
   rcases valF_cases x k K (by omega) h1 with h | ⟨i, hi, g1, g2⟩
   · refine Or.inl fun q hq => ?_
     rcases List.mem_append.1 hq with hq | hq
     · exact h q hq
     rw [List.mem_singleton.1 hq]; omega
   refine Or.inr ⟨i, by simp; omega, by rw [List.getElem_append_left hi]; exact g1, fun h => ?_⟩
   by_cases hl : i + 1 < K.length
   · rw [List.getElem_append_left hl]; exact g2 hl
   rw [List.getElem_append_right (by omega)]; simp; omega
structure Sp where
 f : Int
 t : Int
 s : Sb
def nextAt (L : List (Int × Sb)) (i : Nat) : Int := match L[i + 1]? with
 | some q => q.1
 | none => 12622780800
def spOne (L : List (Int × Sb)) (i : Nat) : List Sp := match L[i]? with
 | some m => if m.2.id = 0 then [] else [⟨m.1, nextAt L i, m.2⟩]
 | none => []
def spUpto (L : List (Int × Sb)) (k : Nat) : List Sp := (List.range k).flatMap (spOne L)
theorem spUpto_succ (L : List (Int × Sb)) (k : Nat) : spUpto L (k + 1) = spUpto L k ++ spOne L k := by
 unfold spUpto; rw [List.range_succ, List.flatMap_append]; simp
theorem spOne_len (L : List (Int × Sb)) (k : Nat) : (spOne L k).length ≤ 1 := by
 unfold spOne
 split
 · split <;> simp
 simp
theorem spUpto_len (L : List (Int × Sb)) : ∀ k, (spUpto L k).length ≤ k
 | 0 => Nat.le_refl _
 | k + 1 => by
   rw [spUpto_succ, List.length_append]
   have := spUpto_len L k
   have := spOne_len L k
   omega
structure SpOk (n : Int) (l : List Ev) (S : List Sp) : Prop where
 asc : S.Pairwise (fun a b => a.t ≤ b.f)
 ne : ∀ a ∈ S, 0 ≤ a.f ∧ a.f < a.t ∧ a.t ≤ 12622780800
 is : ∀ a ∈ S, ∀ x, a.f ≤ x → x < a.t → view (stAt n l x) = view a.s ∧ a.s.id ≠ 0
 all : ∀ x, x < 12622780800 → (stAt n l x).id ≠ 0 → ∃ a ∈ S, a.f ≤ x ∧ x < a.t
theorem nextAt_lt {L : List (Int × Sb)} {i : Nat} (h : i + 1 < L.length) : nextAt L i = (L[i + 1]).1 := by
 unfold nextAt; rw [List.getElem?_eq_getElem h]
theorem nextAt_end {L : List (Int × Sb)} {i : Nat} (h : L.length ≤ i + 1) : nextAt L i = 12622780800 := by
 unfold nextAt; rw [List.getElem?_eq_none h]
theorem spOne_at {L : List (Int × Sb)} {i : Nat} (h : i < L.length) : spOne L i = if (L[i]).2.id = 0 then [] else [⟨(L[i]).1, nextAt L i, (L[i]).2⟩] := by
 unfold spOne; rw [List.getElem?_eq_getElem h]
theorem mem_spUpto {L : List (Int × Sb)} {k : Nat} (hk : k ≤ L.length) {a : Sp} : a ∈ spUpto L k ↔ ∃ i, ∃ h : i < k, (L[i]'(by omega)).2.id ≠ 0 ∧ a = ⟨(L[i]'(by omega)).1, nextAt L i, (L[i]'(by omega)).2⟩ := by
 unfold spUpto
 rw [List.mem_flatMap]
 constructor
 · rintro ⟨i, hi, ha⟩
   have hi := List.mem_range.1 hi
   rw [spOne_at (by omega)] at ha
   split at ha
   · cases ha
   rename_i h; exact ⟨i, hi, h, List.mem_singleton.1 ha⟩
 rintro ⟨i, hi, h1, rfl⟩
 exact ⟨i, List.mem_range.2 hi, by rw [spOne_at (by omega), if_neg h1]; exact List.mem_singleton.2 rfl⟩
theorem spUpto_law {l : List Ev} {n : Int} {L : List (Int × Sb)} (hA : AscM L) (hb : ∀ q ∈ L, 0 ≤ q.1 ∧ q.1 < 12622780800) (hv : ∀ x, view (valF L x) = view (stAt n l x)) : SpOk n l (spUpto L L.length) := by
 have hn : ∀ i (h : i < L.length), (L[i]).1 < nextAt L i ∧ nextAt L i ≤ 12622780800 := fun i h => by
  by_cases h1 : i + 1 < L.length
  · rw [nextAt_lt h1]
    have := List.pairwise_iff_getElem.1 hA i (i + 1) h h1 (by omega)
    have := hb _ (List.getElem_mem h1)
    omega
  rw [nextAt_end (by omega)]
  have := hb _ (List.getElem_mem h)
  omega
 refine ⟨?_, fun a ha => ?_, fun a ha x h1 h2 => ?_, fun x hx hid => ?_⟩
 · have : ∀ k, k ≤ L.length → (spUpto L k).Pairwise (fun a b => a.t ≤ b.f) := by
    intro k
    induction k with
    | zero => intro _; exact List.Pairwise.nil
    | succ k ih =>
      intro hk
      rw [spUpto_succ, List.pairwise_append]
      refine ⟨ih (by omega), ?_, fun a ha b hb2 => ?_⟩
      · rw [spOne_at (by omega)]
        split
        · exact List.Pairwise.nil
        exact List.pairwise_singleton _ _
      obtain ⟨i, hi, -, rfl⟩ := (mem_spUpto (by omega)).1 ha
      rw [spOne_at (by omega)] at hb2
      split at hb2
      · cases hb2
      rw [List.mem_singleton.1 hb2, nextAt_lt (by omega)]
      by_cases hik : i + 1 = k
      · subst hik; exact Int.le_refl _
      exact Int.le_of_lt (List.pairwise_iff_getElem.1 hA (i + 1) k (by omega) (by omega) (by omega))
   exact this _ (Nat.le_refl _)
 · obtain ⟨i, hi, -, rfl⟩ := (mem_spUpto (Nat.le_refl _)).1 ha
   have := hb _ (List.getElem_mem hi)
   exact ⟨this.1, hn i hi⟩
 · obtain ⟨i, hi, h3, rfl⟩ := (mem_spUpto (Nat.le_refl _)).1 ha
   dsimp only at h1 h2 ⊢
   refine ⟨?_, h3⟩
   rw [← hv, valF_at hA hi h1 (fun h => by rw [nextAt_lt h] at h2; exact h2)]
 rcases valF_cases x _ L rfl hA with h | ⟨i, hi, g1, g2⟩
 · have h0 := valF_far x L zeroS h
   have := (view_id (hv x)).1
   rw [show valF L x = zeroS from h0] at this
   exact absurd this.symm hid
 refine ⟨⟨(L[i]).1, nextAt L i, (L[i]).2⟩, (mem_spUpto (Nat.le_refl _)).2 ⟨i, hi, ?_, rfl⟩, g1, ?_⟩
 · have := (view_id (hv x)).1
   rw [valF_at hA hi g1 g2] at this
   rw [this]; exact hid
 show x < nextAt L i
 by_cases h1 : i + 1 < L.length
 · rw [nextAt_lt h1]; exact g2 h1
 rw [nextAt_end (by omega)]; exact hx
def spellsL (n : Int) (l : List Ev) : List Sp := spUpto (jmL (momF n l).1) (jmL (momF n l).1).length
theorem spellsL_ok {l : List Ev} (hr : OkRun l) (n : Int) : SpOk n l (spellsL n l) := by
 obtain ⟨h1, h2, h3, -⟩ := momF_law hr n l.length (Nat.le_refl _)
 rw [List.take_of_length_le (Nat.le_refl _)] at h1 h2 h3
 obtain ⟨g1, g2, g3⟩ := jmL_law _ h1 _ (Nat.le_refl _)
 rw [List.take_of_length_le (Nat.le_refl _)] at g1 g2 g3
 refine spUpto_law g1 (fun q hq => ?_) (fun x => by rw [g3, h3])
 obtain ⟨i, hi, -, e⟩ := h2 q (g2 q hq)
 rw [e]
 exact ⟨(hr i hi).t0, (hr i hi).t1⟩
theorem spellsL_len (n : Int) (l : List Ev) : (spellsL n l).length ≤ l.length := by
 have h1 := spUpto_len (jmL (momF n l).1) (jmL (momF n l).1).length
 have h2 := jmL_len (momF n l).1 _ (Nat.le_refl _)
 rw [List.take_of_length_le (Nat.le_refl _)] at h2
 have h3 := momF_len n l l.length (Nat.le_refl _)
 rw [List.take_of_length_le (Nat.le_refl _)] at h3
 unfold spellsL
 omega
def keptP (k : Sp → Bool) (S : List Sp) : List (Int × Int) := (S.filter k).map fun a => (a.f, a.t)
def joinP (L : List (Int × Int)) : List (Int × Int) := L.foldl (fun O p => chStep O p.1 p.2) []
theorem joinP_take (L : List (Int × Int)) (k : Nat) (h : k < L.length) : joinP (L.take (k + 1)) = chStep (joinP (L.take k)) (L[k]).1 (L[k]).2 := by
 unfold joinP; rw [List.take_succ_eq_append_getElem h, List.foldl_append]; rfl
theorem joinP_len (L : List (Int × Int)) (k : Nat) (hk : k ≤ L.length) : (joinP (L.take k)).length ≤ k := by
 induction k with
 | zero => simp [joinP]
 | succ k ih =>
   rw [joinP_take L k (by omega)]
   have := ih (by omega)
   have := chStep_len (joinP (L.take k)) (L[k]'(by omega)).1 (L[k]'(by omega)).2
   omega
theorem joinP_law (L : List (Int × Int)) (hL : L.Pairwise (fun a b => a.2 ≤ b.1)) (hn : ∀ p ∈ L, p.1 < p.2) : ∀ k, k ≤ L.length →
 Can (joinP (L.take k)) ∧ (∀ h : k < L.length, ∀ q ∈ joinP (L.take k), q.2 ≤ (L[k]).1) ∧ ∀ x, MemP (joinP (L.take k)) x ↔ MemP (L.take k) x
 | 0, _ => by
   rw [List.take_zero]
   exact ⟨trivial, fun _ q hq => (by cases hq), fun x => Iff.rfl⟩
 | k + 1, hk => by
   obtain ⟨h1, h2, h3⟩ := joinP_law L hL hn k (by omega)
   have hp := hn _ (List.getElem_mem (by omega : k < L.length))
   obtain ⟨g1, g2, g3⟩ := chStep_law _ _ _ h1 hp (h2 (by omega))
   rw [joinP_take L k (by omega)]
   refine ⟨g1, fun h q hq => ?_, fun x => ?_⟩
   · have := g2 q hq
     have := List.pairwise_iff_getElem.1 hL k (k + 1) (by omega) h (by omega)
     omega
   rw [g3, h3, List.take_succ_eq_append_getElem (by omega), memP_snoc]
def Held (P : Sb → Bool) (n : Int) (l : List Ev) (x : Int) : Prop := x < 12622780800 ∧ (stAt n l x).id ≠ 0 ∧ P (stAt n l x) = true
theorem held_law {l : List Ev} {n : Int} {S : List Sp} (h : SpOk n l S) (P : Sb → Bool) (hP : ∀ a b, view a = view b → P a = P b) :
 Can (joinP (keptP (fun a => P a.s) S)) ∧ ∀ x, MemP (joinP (keptP (fun a => P a.s) S)) x ↔ Held P n l x := by
 have hmem : ∀ p, p ∈ keptP (fun a => P a.s) S ↔ ∃ a ∈ S, P a.s = true ∧ p = (a.f, a.t) := fun p => by
  unfold keptP
  rw [List.mem_map]
  constructor
  · rintro ⟨a, ha, rfl⟩
    obtain ⟨h1, h2⟩ := List.mem_filter.1 ha
    exact ⟨a, h1, h2, rfl⟩
  rintro ⟨a, h1, h2, rfl⟩
  exact ⟨a, List.mem_filter.2 ⟨h1, h2⟩, rfl⟩
 have hp : (keptP (fun a => P a.s) S).Pairwise (fun a b => a.2 ≤ b.1) := by
  unfold keptP
  rw [List.pairwise_map]
  exact h.asc.filter _
 have hn : ∀ p ∈ keptP (fun a => P a.s) S, p.1 < p.2 := fun p hp => by
  obtain ⟨a, ha, -, rfl⟩ := (hmem p).1 hp
  exact (h.ne a ha).2.1
 obtain ⟨g1, -, g3⟩ := joinP_law _ hp hn _ (Nat.le_refl _)
 rw [List.take_of_length_le (Nat.le_refl _)] at g1 g3
 refine ⟨g1, fun x => ?_⟩
 rw [g3]
 constructor
 · rintro ⟨p, hp, h1, h2⟩
   obtain ⟨a, ha, hPa, rfl⟩ := (hmem p).1 hp
   obtain ⟨e1, e2⟩ := h.is a ha x h1 h2
   have hne := h.ne a ha
   dsimp only at h1 h2
   exact ⟨by omega, by rw [(view_id e1).1]; exact e2, by rw [hP _ _ e1]; exact hPa⟩
 rintro ⟨h1, h2, h3⟩
 obtain ⟨a, ha, e1, e2⟩ := h.all x h1 h2
 exact ⟨(a.f, a.t), (hmem _).2 ⟨a, ha, by rw [← hP _ _ (h.is a ha x e1 e2).1]; exact h3, rfl⟩, e1, e2⟩
def hasT (s : ByteArray) (a : Sb) : Bool := a.prs.any fun x => sameS x s
theorem hasT_view (s : ByteArray) (a b : Sb) (h : view a = view b) : hasT s a = hasT s b := by unfold hasT; rw [(view_id h).2.1]
def actL (n : Int) (s : ByteArray) (l : List Ev) : List (Int × Int) := joinP (keptP (fun a => hasT s a.s) (spellsL n l))
theorem actL_can {l : List Ev} (hr : OkRun l) (n : Int) (s : ByteArray) : Can (actL n s l) := (held_law (spellsL_ok hr n) (hasT s) (hasT_view s)).1
theorem actL_mem {l : List Ev} (hr : OkRun l) (n : Int) (s : ByteArray) (x : Int) : MemP (actL n s l) x ↔ Held (hasT s) n l x := (held_law (spellsL_ok hr n) (hasT s) (hasT_view s)).2 x
theorem joinP_all (L : List (Int × Int)) (P : Int × Int → Prop) (hP : ∀ a b, P a → P b → P (a.1, b.2)) (h : ∀ p ∈ L, P p) : ∀ k, k ≤ L.length → ∀ q ∈ joinP (L.take k), P q
 | 0, _ => fun q hq => by rw [List.take_zero] at hq; cases hq
 | k + 1, hk => by
   have ih := joinP_all L P hP h k (by omega)
   rw [joinP_take L k (by omega)]
   have hk' := h _ (List.getElem_mem (by omega : k < L.length))
   by_cases h0 : joinP (L.take k) = []
   · rw [h0, chStep_nil]
     intro q hq
     rw [List.mem_singleton.1 hq]; exact hk'
   obtain ⟨K, z, hK⟩ : ∃ K z, joinP (L.take k) = K ++ [z] := ⟨_, _, (List.dropLast_concat_getLast h0).symm⟩
   rw [hK] at ih ⊢
   by_cases hz : z.2 = (L[k]'(by omega)).1
   · rw [chStep_eq K z _ _ hz]
     intro q hq
     rcases List.mem_append.1 hq with hq | hq
     · exact ih q (List.mem_append_left _ hq)
     rw [List.mem_singleton.1 hq]; exact hP _ _ (ih z (by simp)) hk'
   rw [chStep_ne K z _ _ hz]
   intro q hq
   rcases List.mem_append.1 hq with hq | hq
   · exact ih q hq
   rw [List.mem_singleton.1 hq]; exact hk'
theorem actL_in {l : List Ev} (hr : OkRun l) (n : Int) (s : ByteArray) : ∀ q ∈ actL n s l, 0 ≤ q.1 ∧ q.1 < q.2 ∧ q.2 ≤ 12622780800 := by
 have hok := spellsL_ok hr n
 have h1 := can_ends (actL_can hr n s)
 have h2 := joinP_all (keptP (fun a => hasT s a.s) (spellsL n l)) (fun q => 0 ≤ q.1 ∧ q.2 ≤ 12622780800) (fun a b ha hb => ⟨ha.1, hb.2⟩) (fun p hp => by
  unfold keptP at hp
  obtain ⟨a, ha, rfl⟩ := List.mem_map.1 hp
  have := hok.ne a (List.mem_filter.1 ha).1
  exact ⟨this.1, this.2.2⟩) _ (Nat.le_refl _)
 rw [List.take_of_length_le (Nat.le_refl _)] at h2
 intro q hq
 exact ⟨(h2 q hq).1, h1 q hq, (h2 q hq).2⟩
end Go.Proofs.YtngippiilgdnoaaGreat
namespace Go.Proofs.YtngippiilgdnoaaGreat
end Go.Proofs.YtngippiilgdnoaaGreat
