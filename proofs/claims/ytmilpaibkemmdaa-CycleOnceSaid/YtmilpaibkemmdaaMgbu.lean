/-
  The walk of cycle.Due.
  The example of chapter 43, plainly.
  The walks of the laws' alive and near of chapter 43.
  The laws of chapter 43: the cycle of an instant, the cycles of a period.
  The laws of chapter 43: the cycles of a period; the cycle of an instant is the only one.
  The laws of chapter 43: the dues; every cycle is due once.
-/
import Derived.Test.YtmilpaibkemmdaaMgbt
import Derived.Test.YtmilpaibkemmdaaMgbn
import Derived.Test.YtmilpaibkemmdaaMgbp
import Derived.Test.YtmilpaibkemmdaaMgbe
import Derived.Test.YtmilpaibkemmdaaMgav
import Derived.Test.YtmilpaibkemmdaaMgae
namespace Go.Proofs.Ytmilpaibkemmdaa
open Go.RowKit Go.Shelf

attribute [local go_sem] Oper.semAt_some

/-- All lies as it lay but block B and rows of type t. -/
structure OthersK (t : TypeId) (B : Nat) (w w' : World) : Prop where
  os : w'.os = w.os
  tape : w'.tape = w.tape
  output : w'.output = w.output
  size : w.heap.size ≤ w'.heap.size
  block : ∀ k, k < w.heap.size → k ≠ B → (∀ cs fr, w.heap[k]? ≠ some (.cells cs t fr)) → w'.heap[k]? = w.heap[k]?
theorem OthersK.refl (t : TypeId) (B : Nat) (w : World) : OthersK t B w w := ⟨rfl, rfl, rfl, Nat.le_refl _, fun _ _ _ _ => rfl⟩
theorem OthersK.trans {t : TypeId} {B : Nat} {a b c : World} (h : OthersK t B a b) (g : OthersK t B b c) : OthersK t B a c :=
  ⟨g.os.trans h.os, g.tape.trans h.tape, g.output.trans h.output, Nat.le_trans h.size g.size, fun k hk hB ht => by
    have e := h.block k hk hB ht
    exact (g.block k (Nat.lt_of_lt_of_le hk h.size) hB (fun cs fr => by rw [e]; exact ht cs fr)).trans e⟩
theorem OthersK.of_below {t : TypeId} {B : Nat} {a b : World} (h : Below a.heap.size a b) : OthersK t B a b := ⟨h.os, h.tape, h.output, h.size, fun k hk _ _ => h.block k hk⟩
theorem OthersK.of_grown {t : TypeId} {B : Nat} {a b : World} {row : Option Nat} (h : a.grownBy b row) (hr : ∀ k, row = some k → k = B ∨ ∃ cs fr, a.heap[k]? = some (.cells cs t fr)) : OthersK t B a b :=
  ⟨h.os, h.tape, h.output, h.size, fun k hk hB ht => h.block k hk fun e => by
    rcases hr k e.symm with h1 | ⟨cs, fr, h1⟩
    · exact hB h1
    · exact ht cs fr h1⟩
theorem OthersK.row {t : TypeId} {B : Nat} {a b : World} (h : OthersK t B a b) {k : Nat} {cs : Array Value} {t' : TypeId} {fr : Nat × Nat} (hk : a.heap[k]? = some (.cells cs t' fr)) (hB : k ≠ B) (ht : t' ≠ t) : b.heap[k]? = some (.cells cs t' fr) :=
  (h.block k (Array.getElem?_eq_some_iff.1 hk).1 hB fun cs' fr' e => by rw [hk] at e; cases e; exact ht rfl).trans hk
theorem OthersK.from {t : TypeId} {B : Nat} {a b : World} (h : OthersK t B a b) (hB : ∃ cs t' fr, a.heap[B]? = some (.cells cs t' fr)) (n : Nat) : KeepsFrom n a b :=
  ⟨h.size, fun k o _ hk ho => (h.block k (Array.getElem?_eq_some_iff.1 hk).1 (fun e => by
    obtain ⟨cs, t', fr, hb⟩ := hB
    subst e
    rw [hk] at hb
    cases hb
    cases ho) (fun cs fr e => by rw [hk] at e; cases e; cases ho)).trans hk⟩
/-- A slice of records that lies in a row of another type. -/
theorem OthersK.recs {α : Type} {c : α → List Value} {sz : Nat} {t : TypeId} {B : Nat} {a b : World} (h : OthersK t B a b) {v : Value} {l : List α} (hr : RecAt c sz a v l) (hv : ∀ g, v.ownBlock = some g → g ≠ B ∧ ∃ cs t' fr, a.heap[g]? = some (.cells cs t' fr) ∧ t' ≠ t) : RecAt c sz b v l := by
  obtain ⟨av, cap, rfl, h1, h2, h3⟩ := hr
  refine ⟨av, cap, rfl, h1, h2, fun hne => ?_⟩
  obtain ⟨g, o, rfl, hg, hx⟩ := h3 hne
  obtain ⟨hB, cs, t', fr, hc, ht⟩ := hv g rfl
  have e := h.row hc hB ht
  refine ⟨g, o, rfl, Nat.lt_of_lt_of_le hg h.size, fun i hi j hj => ?_⟩
  rw [← hx i hi j hj]
  exact World.cell?_of_block (a := ⟨g, _, none⟩) (e.trans hc.symm)

/-- Dues in a row of the call's own. -/
def DueOwn (l : List Ev) (a b : Int) (w : World) (e : Ending) (w' : World) : Prop := ∃ v D, e = .returned v ∧ DueOk l a b D ∧ w'.ownsRow w.heap.size 47 3 v D.length (D.flatMap duCells) ∧ Below w.heap.size w w'
theorem due_none {l : List Ev} (hok : CycOk l) {a b : Int} (h : min b 12622780800 ≤ max a 0) : DueOk l a b [] := by
  refine dueOk_perm hok ?_ List.Pairwise.nil
  have e : l.flatMap (perE l a b) = [] := by
    refine List.flatMap_eq_nil_iff.2 fun e _ => ?_
    unfold perE
    split
    · unfold lifeL
      rw [if_neg]
      · rfl
      · intro hv
        have := (validB_iff _ _).1 hv
        omega
    · rfl
  rw [e]
/-- The dues of the first lives. -/
noncomputable def duesP (l : List Ev) (a b : Int) (pre : List (OpE l)) : List Du := (valsE pre).flatMap (perE l a b)
theorem duesP_snoc (l : List Ev) (a b : Int) (pre : List (OpE l)) (x : OpE l) : duesP l a b (pre ++ [x]) = duesP l a b pre ++ perE l a b x.1 := by
  unfold duesP
  rw [valsE_snoc, List.flatMap_append, List.flatMap_singleton]

/-- append of one record to a row of the call's own, inside a fence. -/
theorem append_oneIn {α : Type} {c : α → List Value} {sz : Nat} {F : Fence} {n : Nat} {P : Program} (hc : ∀ a, (c a).length = sz) (h1c : ∀ a, ∀ u ∈ c a, u.oneCell' = true) (E S : TypeId) (z : Value) (bytes : Nat) (hU : P.underlying S = some (.slice E)) (hI : (P.info? E).map (fun i => (i.zero, i.size, i.bytes)) = some (some z, sz, bytes)) (hzs : z.cells.size = sz) (hsz : 0 < sz)
    {w : World} {ops : Array Oper} {rest : List Oper} {o : Oper} {a : Act} {Q : Exit → Act → World → Prop} (hgd : o.guard = none) (s x : Operand)
    (ho : o.op = .call { callee := .builtin .append, args := #[s, x], argTypes := #[S, S] })
    (base : Nat) (hbase : base ≤ w.heap.size) (v : Value) (L : List α) (X : α) (b : Nat) (t : TypeId) (fr : Nat × Nat) (hs : a.eval s = v) (hx : a.eval x = .slice (some ⟨b, 0, none⟩) 1 1) (hown : w.ownsRow base E sz v L.length (L.flatMap c)) (hb : w.heap[b]? = some (.cells (c X).toArray t fr)) (hlen : L.length + 1 ≤ maxLen) (hby : (L.length + 1) * bytes ≤ 140737488355328)
    (h : ∀ R : List α, RowKit.Hid (R = L ++ [X]) → ∀ v' w', w'.ownsRow base E sz v' R.length (R.flatMap c) → w.grownBy w' v.ownBlock → (∃ g cp, v' = .slice (some ⟨g, 0, none⟩) R.length cp) → wpListIn F n P ops Q rest (a.put o.dst v') w') : wpListIn F n P ops Q (o :: rest) a w := by
  obtain ⟨i0, hi, hz0, hz1, hz2⟩ := info_parts hI
  refine wpListIn_append_own _ hgd s x _ ho base E i0 _ sz bytes hU hi hz0 hz1 hz2 hzs hsz v L.length _ hs hown ⟨b, 0, none⟩ 1 1 (c X) hx (by rw [hc]; omega) ?_ (h1c X) hlen hby hbase ?_
  · intro j u hj
    rw [show (⟨b, 0, none⟩ : Addr).add j = ⟨b, j, none⟩ by unfold Addr.add; split <;> simp_all]
    rw [cell_of_row w b j _ _ _ hb]
    simpa using hj
  · intro v' w' h1 h2 _
    have hshape := ownsRow_succ h1
    refine h _ (Lib.hid rfl) v' w' ?_ h2 ?_
    · rw [List.length_append, List.flatMap_append, List.flatMap_singleton]
      exact h1
    · rw [List.length_append]
      exact hshape
/-- What a call to append and the store of its result leave. -/
theorem others_appended {t : TypeId} {B base sz k : Nat} {X w1 : World} {v v' : Value} {xs : List Value} {tmp : Obj} (hrow : X.ownsRow base t sz v k xs) (hg : (X.alloc tmp).grownBy w1 v.ownBlock) :
    OthersK t B X (w1.setCell ⟨B, 0, none⟩ v') := by
  have hrow2 := hrow.alloc tmp
  refine (OthersK.of_below (((Below.refl _ _).alloc (Nat.le_refl _) tmp))).trans ((OthersK.of_grown hg fun k hk => Or.inr ?_).trans (OthersK.of_grown (grownBy_setCell' w1 B v') fun k hk => Or.inl (by cases hk; rfl)))
  rcases hrow2.2 with ⟨rfl, -⟩ | ⟨g, cap, cur, rfl, -, hc, -⟩
  · cases hk
  · cases hk
    exact ⟨cur, _, hc⟩
theorem flat_le {α β : Type} {f : α → List β} {m : Nat} : ∀ (l : List α), (∀ e ∈ l, (f e).length ≤ m) → (l.flatMap f).length ≤ m * l.length
  | [], _ => by simp
  | e :: r, h => by
    have h1 := flat_le r fun x hx => h x (by simp [hx])
    have h2 := h e (by simp)
    rw [List.flatMap_cons, List.length_append, List.length_cons, Nat.mul_succ]
    omega
theorem duesP_len {l : List Ev} {a b : Int} (hP : ∀ e ∈ l, (perE l a b e).length ≤ 40) : ∀ pre : List (OpE l), (duesP l a b pre).length ≤ 40 * pre.length
  | [] => by simp [duesP, valsE]
  | x :: r => by
    have h1 := duesP_len hP r
    have h2 := hP _ x.2.1
    have e : duesP l a b (x :: r) = perE l a b x.1 ++ duesP l a b r := rfl
    rw [e, List.length_append, List.length_cons]
    omega

set_option maxRecDepth 100000 in
set_option maxHeartbeats 12800000 in
theorem due_in (F : Fence) (hFw : F = Fence.wide) (n : Nat) (hn : 6 ≤ n) (v : Value) (l : List Ev) (a b : Int) (w : World) (h : EvsAt w v l) (hok : CycOk l) (hP : ∀ e ∈ l, (perE l a b e).length ≤ 40) (hl : l.length ≤ 40) :
    CallsIn F n Try.prog 14 #[v, .int .i64 a, .int .i64 b] w (DueOwn l a b w) := by
  have hh := h
  obtain ⟨av, cap, rfl, hcl, hcm⟩ := rec_shape h.1
  have hn1 : 1 ≤ n := by omega
  have hro : F.round = none := by rw [hFw]; rfl
  have h2f : F.fn 30 := by rw [hFw]; trivial
  have h3f : F.fn 44 := by rw [hFw]; trivial
  have h1f : F.fn 14 := by rw [hFw]; trivial
  have h4f : F.fn 31 := by rw [hFw]; trivial
  have h5f : F.fn 32 := by rw [hFw]; trivial
  have HWd := Lib.hid (show ∀ (m f : Nat) (args : Array Value) (Y : World) (Q : Ending → World → Prop), Calls Try.prog f args Y Q → CallsIn F m Try.prog f args Y Q from fun m f args Y Q h => by rw [hFw]; exact callsIn_wide.2 h)
  clear hFw
  obtain ⟨mx, hmx⟩ : ∃ mx, mx = max a 0 := ⟨_, rfl⟩
  obtain ⟨mn, hmn⟩ : ∃ mn, mn = min b 12622780800 := ⟨_, rfl⟩
  have Hmx := Lib.hid hmx
  have Hmn := Lib.hid hmn
  have i1 : (if a < 0 then 0 else a) = mx := by rw [hmx]; split <;> omega
  have i2 : (if 12622780800 < b then 12622780800 else b) = mn := by rw [hmn]; split <;> omega
  clear hmx hmn
  by_cases hlt : mn ≤ mx
  · have HN := Lib.hid (due_none hok (a := a) (b := b) (by rw [← Hmx.out, ← Hmn.out]; exact hlt))
    refine callsIn_of_wp Try.func14 rfl h1f ?_ hro
    simp only [Try.ntmps14, List.size_toArray, List.length_cons, List.length_nil, Nat.reduceAdd, Nat.reduceSub, Array.replicate_succ, Array.replicate_zero, List.push_toArray, List.append_toArray, List.nil_append, List.cons_append]
    gi_wp2
    go_ret
    exact ⟨_, [], rfl, HN.out, World.ownsRow_nil _ _ _ _, (((Below.refl _ w).alloc (Nat.le_refl _) _).alloc (by simp) _).alloc (by simp; omega) _⟩
  obtain ⟨W0, hW0⟩ : ∃ W0, W0 = ((((w.alloc (.cells #[.int .i64 a] 3)).alloc (.cells #[.int .i64 b] 3)).alloc (.cells #[.int .i64 mx, .int .i64 mn] 26)).alloc (.cells #[.slice none 0 0] 33)).alloc (.cells #[.slice av l.length cap] 22) := ⟨_, rfl⟩
  have hsz : W0.heap.size = w.heap.size + 5 := by rw [hW0]; simp
  have hB0 : Below w.heap.size w W0 := by rw [hW0]; exact (((((Below.refl _ w).alloc (Nat.le_refl _) _).alloc (by simp) _).alloc (by simp; omega) _).alloc (by simp; omega) _).alloc (by simp; omega) _
  have row : ∀ (X : World) (o : Obj), (X.alloc o).heap[X.heap.size]? = some o := fun X o => heap_alloc_new X o
  have a0 : W0.heap[w.heap.size]? = some (.cells #[.int .i64 a] 3) := by
    rw [hW0]
    exact (Below.heap_alloc _ _ _ (by simp <;> omega)).trans ((Below.heap_alloc _ _ _ (by simp <;> omega)).trans ((Below.heap_alloc _ _ _ (by simp <;> omega)).trans ((Below.heap_alloc _ _ _ (by simp)).trans (row _ _))))
  have a1 : W0.heap[w.heap.size + 1]? = some (.cells #[.int .i64 b] 3) := by
    rw [hW0]
    refine (Below.heap_alloc _ _ _ (by simp <;> omega)).trans ((Below.heap_alloc _ _ _ (by simp <;> omega)).trans ((Below.heap_alloc _ _ _ (by simp)).trans ?_))
    have := row (w.alloc (.cells #[.int .i64 a] 3)) (.cells #[.int .i64 b] 3)
    rwa [World.size_alloc] at this
  have a2 : W0.heap[w.heap.size + 1 + 1]? = some (.cells #[.int .i64 mx, .int .i64 mn] 26) := by
    rw [hW0]
    refine (Below.heap_alloc _ _ _ (by simp <;> omega)).trans ((Below.heap_alloc _ _ _ (by simp)).trans ?_)
    have := row ((w.alloc (.cells #[.int .i64 a] 3)).alloc (.cells #[.int .i64 b] 3)) (.cells #[.int .i64 mx, .int .i64 mn] 26)
    rwa [World.size_alloc, World.size_alloc] at this
  have a3 : W0.heap[w.heap.size + 1 + 1 + 1]? = some (.cells #[.slice none 0 0] 33) := by
    rw [hW0]
    refine (Below.heap_alloc _ _ _ (by simp)).trans ?_
    have := row (((w.alloc (.cells #[.int .i64 a] 3)).alloc (.cells #[.int .i64 b] 3)).alloc (.cells #[.int .i64 mx, .int .i64 mn] 26)) (.cells #[.slice none 0 0] 33)
    rwa [World.size_alloc, World.size_alloc, World.size_alloc] at this
  have a4 : W0.heap[w.heap.size + 1 + 1 + 1 + 1]? = some (.cells #[.slice av l.length cap] 22) := by
    rw [hW0]
    have := row ((((w.alloc (.cells #[.int .i64 a] 3)).alloc (.cells #[.int .i64 b] 3)).alloc (.cells #[.int .i64 mx, .int .i64 mn] 26)).alloc (.cells #[.slice none 0 0] 33)) (.cells #[.slice av l.length cap] 22)
    rwa [World.size_alloc, World.size_alloc, World.size_alloc, World.size_alloc] at this
  have HW := Lib.hid hW0
  have A0 := Lib.hid a0
  have A1 := Lib.hid a1
  have A2 := Lib.hid a2
  have A3 := Lib.hid a3
  have A4 := Lib.hid a4
  have HB0 := Lib.hid hB0
  have HH := Lib.hid hh
  have Hsz := Lib.hid hsz
  clear hW0 a0 a1 a2 a3 a4 hB0 hsz h hh hcl hcm row
  refine callsIn_of_wp_marks Try.func14 rfl h1f ?_ hro
  simp only [Try.ntmps14, List.size_toArray, List.length_cons, List.length_nil, Nat.reduceAdd, Nat.reduceSub, Array.replicate_succ, Array.replicate_zero, List.push_toArray, List.append_toArray, List.nil_append, List.cons_append]
  gi_wp2_with (gi_at_call 30; refine (lives_in F (n - 1) h2f hro _ _ _ _).mono ?_; rintro e w' ⟨rfl, rfl⟩)
  rw [← Hmx.out, ← Hmn.out]
  rw [show ((((w.alloc (.cells #[.int .i64 a] 3)).alloc (.cells #[.int .i64 b] 3)).alloc (.cells #[.int .i64 mx, .int .i64 mn] 26)).alloc (.cells #[.slice none 0 0] 33)).alloc (.cells #[.slice av l.length cap] 22) = W0 from HW.out.symm]
  refine wpIn_rangeFunc_ownH hro hn1 (gf := 44) (lb := #[.pointer (some ⟨w.heap.size + 1 + 1 + 1 + 1, 0, none⟩)]) rfl h3f (enters_of Try.func44 (by kernel_rfl) rfl)
    (lives_stops F (n - 1) h3f hro (by omega) (w.heap.size + 1 + 1 + 1 + 1) w.heap.size (.slice av l.length cap) l W0 w rfl (by have := Hsz.out; omega) (by have := Hsz.out; omega) (cell_of_row W0 _ 0 _ _ _ A4.out) HH.out HB0.out) (fun h g => h.trans g) (kpL_putObj (by have := Hsz.out; omega) (by have := Hsz.out; omega)) (Below.refl _ _) (fun _ => rfl)
    (fun pre W => ((W.heap[w.heap.size]? = some (.cells #[.int .i64 a] 3) ∧ W.heap[w.heap.size + 1]? = some (.cells #[.int .i64 b] 3) ∧ W.heap[w.heap.size + 1 + 1]? = some (.cells #[.int .i64 mx, .int .i64 mn] 26) ∧ W.heap[w.heap.size + 1 + 1 + 1 + 1]? = some (.cells #[.slice av l.length cap] 22)) ∧ ∃ vo, Boxed W (w.heap.size + 1 + 1 + 1) 33 vo ∧ W.ownsRow w.heap.size 47 3 vo (duesP l a b pre).length ((duesP l a b pre).flatMap duCells) ∧ True) ∧ Below w.heap.size w W)
    (fun _ _ _ => False)
    (OwnFrom.and (OwnFrom.and (OwnFrom.and (Own.from (row_own _ _ (fun _ => rfl)) _) (OwnFrom.and (Own.from (row_own _ _ (fun _ => rfl)) _) (OwnFrom.and (Own.from (row_own _ _ (fun _ => rfl)) _) (Own.from (row_own _ _ (fun _ => rfl)) _)))) (Own.from (holdsRow_own w.heap.size (w.heap.size + 1 + 1 + 1) 33 47 3 (fun pre => (duesP l a b pre).length) (fun pre => (duesP l a b pre).flatMap duCells) (fun _ _ => True)) _)) (ownFrom_below (Nat.le_refl _) (by have := Hsz.out; omega)))
    (fun _ _ _ _ _ hs _ _ => hs)
    ⟨⟨⟨A0.out, A1.out, A2.out, A4.out⟩, _, A3.out, World.ownsRow_nil _ _ _ _, trivial⟩, HB0.out⟩
    (fun x a' W => ∃ Bx, w.heap.size + 1 + 1 + 1 < Bx ∧ W.heap[Bx]? = some (.cells #[.int .i64 x.1.ac, .int .i64 x.1.vl, .int .i64 x.1.tm, .int .i64 (closeR l x.1.ac)] 49) ∧ a' = { tmps := #[.slice av l.length cap, .int .i64 a, .int .i64 b, undef, .pointer (some ⟨w.heap.size, 0, none⟩), .pointer (some ⟨w.heap.size + 1, 0, none⟩), .slice none 0 0, .pointer (some ⟨w.heap.size + 1 + 1, 0, none⟩), .pointer (some ⟨w.heap.size + 1 + 1 + 1, 0, none⟩), .pointer (some ⟨Bx, 0, none⟩), undef, undef, .int .i64 a, .int .i64 mx, .int .i64 b, .int .i64 mn, .agg #[.int .i64 mx, .int .i64 mn], .pointer (some ⟨w.heap.size + 1 + 1, 0, none⟩), .int .i64 mx, .pointer (some ⟨w.heap.size + 1 + 1, 1, none⟩), .int .i64 mn, .bool (decide (mn ≤ mx)), .slice av l.length cap, .func (.func 44) #[] #[.pointer (some ⟨w.heap.size + 1 + 1 + 1 + 1, 0, none⟩)], .agg #[.int .i64 x.1.ac, .int .i64 x.1.vl, .int .i64 x.1.tm, .int .i64 (closeR l x.1.ac)], undef, undef, undef, undef, undef, undef, undef, undef, undef, undef, undef, undef, undef, undef, undef, undef, undef, undef, undef, undef, undef, undef, undef, undef, undef, undef, undef, undef, undef], defers := [] })
    (fun x a' _ X Y row hs hg hr => by
      obtain ⟨Bx, h1, h2, h3⟩ := hs
      exact ⟨Bx, h1, row_own Bx (fun _ => _) (fun _ => rfl) () X Y row h2 hg (fun r e => (hr r e).2), h3⟩)
    ?assign ?body ?done ?stop
  case assign =>
    rintro l' pre x W K ⟨⟨⟨i0, i1, i2, i4⟩, vo, i3, io, -⟩, hB1⟩ hK
    have hs1 := (Array.getElem?_eq_some_iff.1 i4).1
    have I0 := Lib.hid i0
    have I1 := Lib.hid i1
    have I2 := Lib.hid i2
    have I3 := Lib.hid i3
    have I4 := Lib.hid i4
    have IOw := Lib.hid io
    have HB1 := Lib.hid hB1
    have HK := Lib.hid hK
    clear i0 i1 i2 i3 i4 io hB1 hK
    simp only [lifeVal]
    gi_wp2
    refine HK.out _ _ ((KeepsOthers.alloc _ _).from _) (KpL.of_below (by omega) (by omega) ((Below.refl _ _).alloc (Nat.le_refl _) _)) ⟨⟨⟨?_, ?_, ?_, ?_⟩, vo, I3.out.alloc _, IOw.out.alloc _, trivial⟩, HB1.out.alloc HB1.out.size _⟩ ⟨W.heap.size, by omega, heap_alloc_new _ _, rfl⟩
    · exact (Below.heap_alloc _ _ _ (by omega)).trans I0.out
    · exact (Below.heap_alloc _ _ _ (by omega)).trans I1.out
    · exact (Below.heap_alloc _ _ _ (by omega)).trans I2.out
    · exact (Below.heap_alloc _ _ _ (by omega)).trans I4.out
  case body =>
    rintro l' pre x a' W hl' ⟨r, hr⟩ ⟨⟨⟨i0, i1, i2, i4⟩, vo, i3, io, -⟩, hB1⟩ ⟨Bx, hBx, bX, rfl⟩ hlen
    obtain ⟨e, he, hk1⟩ := x
    dsimp only at bX ⊢
    obtain ⟨o0, o1, v1, v2⟩ := open_bd hok he hk1
    rw [closeR_eq hok] at bX ⊢
    have hvm : validB mx mn = true := by rw [validB_iff]; have := Hmx.out; have := Hmn.out; omega
    have hPE := Lib.hid (show perE l a b e = midL e.ac a b (lifeL e.vl e.tm (closeT l e.ac) mx mn) (lifeL e.vl e.tm (closeT l e.ac) mx mn).length by
      unfold perE midL
      rw [if_pos hk1, List.take_length, Hmx.out, Hmn.out])
    have hPl := hP _ he
    rw [hPE.out] at hPl
    have hZl := duesP_len hP pre
    have HPl := Lib.hid hPl
    have HDs := Lib.hid (duesP_snoc l a b pre ⟨e, he, hk1⟩)
    have HC := Lib.hid (show ∀ Y, Calls Try.prog 31 #[.agg #[.int .i64 e.ac, .int .i64 e.vl, .int .i64 e.tm, .int .i64 (closeT l e.ac)], .agg #[.int .i64 mx, .int .i64 mn]] Y (DelTo Y.heap.size Y (lifeL e.vl e.tm (closeT l e.ac) mx mn)) from fun Y => by
      have h := lcycles_calls e.ac e.vl e.tm (closeT l e.ac) mx mn (moOf e.vl mx) (moOf e.vl (mn - 1)) Y v1 v2 hvm (moOf_is (by have := (validB_iff _ _).1 hvm; omega) (by have := (validB_iff _ _).1 hvm; omega)) (moOf_is (by have := (validB_iff _ _).1 hvm; omega) (by have := (validB_iff _ _).1 hvm; omega))
      unfold lfVal at h
      unfold lifeL
      rw [if_pos hvm]
      exact h)
    have HST := Lib.hid (fun C k h => midL_step e.ac a b C k h)
    have HML := Lib.hid (fun C k => midL_le e.ac a b C k)
    generalize lifeL e.vl e.tm (closeT l e.ac) mx mn = C at *
    generalize closeT l e.ac = ct at *
    have hZ : (duesP l a b pre).length ≤ 1600 := by omega
    obtain ⟨Z, hZe⟩ : ∃ Z, Z = duesP l a b pre := ⟨_, rfl⟩
    rw [← hZe] at io HDs hZ
    dsimp only at HDs
    rw [hPE.out] at HDs
    have x0 := cell_of_row W _ 0 _ _ _ bX
    have x1 := cell_of_row W _ 1 _ _ _ bX
    have x2 := cell_of_row W _ 2 _ _ _ bX
    have x3 := cell_of_row W _ 3 _ _ _ bX
    have y0 := cell_of_row W _ 0 _ _ _ i2
    have y1 := cell_of_row W _ 1 _ _ _ i2
    have hn3 : 1 ≤ n - 1 - 1 := by omega
    have I0 := Lib.hid i0
    have I1 := Lib.hid i1
    have I2 := Lib.hid i2
    have I3 := Lib.hid i3
    have I4 := Lib.hid i4
    have IOw := Lib.hid io
    have IX := Lib.hid bX
    have HB1 := Lib.hid hB1
    have hs1 := (Array.getElem?_eq_some_iff.1 i4).1
    have hWs := hB1.size
    clear i0 i1 i2 i3 i4 io bX hB1 hr hl' hlen hPE hZl hZe hPl hvm o0 o1 v1 v2
    gi_wp2_with (gi_at_call 31; refine (CallsIn.inRound l' (HWd.out _ _ _ _ _ (HC.out W))).mono ?_; rintro e' w2 ⟨vc, rfl, hr2, ht2, hb2⟩; have HR2 := Lib.hid hr2; have HT2 := Lib.hid ht2; have HB2 := Lib.hid hb2; obtain ⟨ac2, cc2, rfl, hcl2, hcm2⟩ := rec_shape hr2; clear hr2 ht2 hb2)
    gi_wp2
    have hws2 := HB2.out.size
    unfold maxLen at hcm2
    have hCl : C.length ≤ 9223372036854775807 := by omega
    have J3 : Boxed w2 (w.heap.size + 1 + 1 + 1) 33 vo := (HB2.out.block _ (by omega)).trans I3.out
    have J0 := Lib.hid ((HB2.out.block _ (by omega)).trans I0.out)
    have J1 := Lib.hid ((HB2.out.block _ (by omega)).trans I1.out)
    have JX := Lib.hid ((HB2.out.block _ (Array.getElem?_eq_some_iff.1 IX.out).1).trans IX.out)
    have JO := ownsRow_below IOw.out HB2.out
    clear x0 x1 x2 x3 y0 y1
    gi_loopg [29] C.length (fun g i wx => ∃ k : Nat, k + g = C.length ∧ i = .int .i64 k ∧ (∃ vq, Boxed wx (w.heap.size + 1 + 1 + 1) 33 vq ∧ wx.ownsRow w.heap.size 47 3 vq (Z ++ midL e.ac a b C k).length ((Z ++ midL e.ac a b C k).flatMap duCells)) ∧ Below w.heap.size W wx ∧ OthersK 47 (w.heap.size + 1 + 1 + 1) w2 wx)
    case atStart => exact ⟨0, by omega, rfl, ⟨vo, J3, by rw [show midL e.ac a b C 0 = [] from rfl, List.append_nil]; exact JO⟩, HB2.out.mono (by omega), OthersK.refl _ _ _⟩
    case round =>
      obtain ⟨wi, rfl⟩ : ∃ wi : World, wi = wr := ⟨_, rfl⟩
      obtain ⟨k, hkg, rfl, ⟨vq, hbx, hrow⟩, hbw, ho⟩ := hrel
      have Hkg := Lib.hid hkg
      have Hbx := Lib.hid hbx
      have Hrow := Lib.hid hrow
      have Hbw := Lib.hid hbw
      have Ho := Lib.hid ho
      have hwis := ho.size
      have p0 := cell_of_row wi _ 0 _ _ _ (ho.row J0.out (by omega) (by decide))
      have p1 := cell_of_row wi _ 0 _ _ _ (ho.row J1.out (by omega) (by decide))
      have q0 := cell_of_row wi _ 0 _ _ _ (ho.row JX.out (by omega) (by decide))
      have b0 := hbx.cell
      have b1 := hbx.frozen
      have hblt := hbx.lt
      clear J3 JO
      cases gk with
      | zero =>
        have hkz : ¬ ((k : Int) < (C.length : Int)) := by omega
        have hkC : k = C.length := by omega
        have HOW := Lib.hid ((OthersK.of_below (t := 47) (B := w.heap.size + 1 + 1 + 1) HB2.out).trans ho)
        clear hkg hbx hrow hbw ho
        gi_wp2
        refine ⟨HOW.out.from ⟨_, _, _, I3.out⟩ _, ⟨Hbw.out, (HOW.out.row I4.out (by omega) (by decide)).trans I4.out.symm⟩, ⟨⟨HOW.out.row I0.out (by omega) (by decide), HOW.out.row I1.out (by omega) (by decide), HOW.out.row I2.out (by omega) (by decide), HOW.out.row I4.out (by omega) (by decide)⟩, vq, Hbx.out, ?_⟩, HB1.out.trans Hbw.out⟩
        rw [HDs.out, ← hkC]
        exact Hrow.out
      | succ g0 =>
        have hk1' : (k : Int) < (C.length : Int) := by omega
        have hk0 : (0 : Int) ≤ (k : Int) := Int.natCast_nonneg _
        have hkl : k < C.length := by omega
        have HS := Lib.hid (HST.out C k hkl)
        have hLl : (Z ++ midL e.ac a b C k).length ≤ 1640 := by
          rw [List.length_append]
          have := HML.out C k
          have := HPl.out
          omega
        have hRC := ho.recs HR2.out (fun g hg => by
          obtain ⟨h1, cs, fr, h2⟩ := HT2.out g hg
          exact ⟨by omega, cs, _, fr, h2, by decide⟩)
        obtain ⟨a3, n3, e3, -, -, hx⟩ := hRC
        cases e3
        obtain ⟨bb, off, rfl, hBb, hx⟩ := hx (by intro e; rw [e] at hkl; cases hkl)
        have c0 : wi.cell? ⟨bb, off + k * 2, none⟩ = some (.int .i64 (C[k]).1) := hx k hkl 0 (by decide)
        have c1 : wi.cell? ⟨bb, off + k * 2 + 1, none⟩ = some (.int .i64 (C[k]).2) := hx k hkl 1 (by decide)
        clear hx hkg hbx hrow hbw ho
        generalize C[k] = y at *
        obtain ⟨y0, y1⟩ := y
        dsimp only at c0 c1
        obtain ⟨X, hX⟩ : ∃ X, X = wi.alloc (Obj.cells #[.int .i64 y0, .int .i64 y1] 26) := ⟨_, rfl⟩
        have hbX : Below wi.heap.size wi X := by rw [hX]; go_grown
        have HbX := Lib.hid hbX
        have HX := Lib.hid hX
        have HXsz := Lib.hid (show X.heap.size = wi.heap.size + 1 by rw [hX]; simp)
        have HbxX := Lib.hid (show Boxed X (w.heap.size + 1 + 1 + 1) 33 vq by rw [hX]; exact Hbx.out.alloc _)
        have HrowX := Lib.hid (show X.ownsRow w.heap.size 47 3 vq (Z ++ midL e.ac a b C k).length ((Z ++ midL e.ac a b C k).flatMap duCells) by rw [hX]; exact Hrow.out.alloc _)
        have hwsz : w.heap.size + 1 + 1 + 1 < wi.heap.size := hblt
        have hn1 : ¬ w.heap.size = wi.heap.size := by omega
        have hn2 : ¬ w.heap.size + 1 = wi.heap.size := by omega
        have hn4 : w.heap.size < wi.heap.size := by omega
        have hn5 : w.heap.size + 1 < wi.heap.size := by omega
        have hn6 : w.heap.size + 1 + 1 + 1 < wi.heap.size := by omega
        have hBxl : Bx < wi.heap.size := by have := (Array.getElem?_eq_some_iff.1 JX.out).1; omega
        have hBxn : ¬ Bx = wi.heap.size := by omega
        clear hX hbX
        by_cases hc1 : a < y1
        · by_cases hc2 : y1 ≤ b
          · have HE := Lib.hid (HS.out.trans (if_pos (inD_iff.2 ⟨hc1, hc2⟩)))
            clear HS
            obtain ⟨R, hR⟩ : ∃ R, R = Z ++ midL e.ac a b C k := ⟨_, rfl⟩
            rw [← hR] at HrowX hLl
            have HRe := Lib.hid hR
            clear hR
            obtain ⟨vqa, vqc, rfl, -, -⟩ := own_shape HrowX.out
            have hXs : w.heap.size + 1 + 1 + 1 < X.heap.size := HbxX.out.lt
            gi_wp2_with (gi_at_builtin; rw [← HX.out]; refine append_oneIn (c := duCells) (sz := 3) (fun _ => rfl) du_one 47 33 _ 24 Try.underlying33 Try.dueInfo rfl (by decide) rfl _ _ rfl w.heap.size (by simp; omega) _ R (e.ac, (y0, y1)) _ _ _ rfl rfl (HrowX.out.alloc _) (by rw [← HXsz.out]; exact heap_alloc_new X _) (by unfold maxLen; omega) (by omega) ?_; intro R2 hR2 v' w1 hown' hgrow hsh; obtain ⟨g', cp, rfl⟩ := hsh; have HR2' := Lib.hid hR2.out; have HOA := Lib.hid (others_appended (B := w.heap.size + 1 + 1 + 1) (v' := Value.slice (some ⟨g', 0, none⟩) R2.length cp) HrowX.out hgrow); obtain ⟨hv1, hv2, hr2, -, hb2⟩ := HbxX.out.appended (by decide) HrowX.out (by omega) (by omega) hown' hgrow; have cc1 := hv1.cell; have ff1 := hv1.frozen; have HV2 := Lib.hid hv2; have HR3 := Lib.hid hr2; have HB3 := Lib.hid hb2; clear hR2 hown' hgrow hv1 hv2 hr2 hb2)
            go_roundg g0
            case measure => omega
            case rel => exact ⟨k + 1, by have := Hkg.out; omega, by go_num, ⟨_, HV2.out, by rw [HE.out, ← List.append_assoc, ← HRe.out, ← HR2'.out]; exact HR3.out⟩, Hbw.out.trans ((HbX.out.mono (by omega)).trans HB3.out), (Ho.out.trans (OthersK.of_below HbX.out)).trans HOA.out⟩
          · have HE := Lib.hid (HS.out.trans (if_neg (fun h => hc2 (inD_iff.1 h).2)))
            clear HS
            gi_wp2
            rw [← HX.out]
            go_roundg g0
            case measure => omega
            case rel => exact ⟨k + 1, by have := Hkg.out; omega, by go_num, ⟨vq, HbxX.out, by rw [HE.out]; exact HrowX.out⟩, Hbw.out.trans (HbX.out.mono (by omega)), Ho.out.trans (OthersK.of_below HbX.out)⟩
        · have HE := Lib.hid (HS.out.trans (if_neg (fun h => hc1 (inD_iff.1 h).1)))
          clear HS
          gi_wp2
          rw [← HX.out]
          go_roundg g0
          case measure => omega
          case rel => exact ⟨k + 1, by have := Hkg.out; omega, by go_num, ⟨vq, HbxX.out, by rw [HE.out]; exact HrowX.out⟩, Hbw.out.trans (HbX.out.mono (by omega)), Ho.out.trans (OthersK.of_below HbX.out)⟩
  case done =>
    rintro D ys W hD hys ⟨⟨⟨i0, i1, i2, i4⟩, vo, i3, io, -⟩, hB1⟩ hK
    have hys2 : (duesP l a b ys) = l.flatMap (perE l a b) := by
      unfold duesP
      rw [hys, opens_flat (perE_none l a b)]
    rw [hys2] at io
    have hzl := flat_le l hP
    have HBW := Lib.hid (show w.heap.size ≤ W.heap.size from hB1.size)
    have HS := Lib.hid (sortDue_calls w.heap.size W vo _ io hB1.size (by omega))
    have b0 := i3.cell
    have hDs : w.heap.size + 1 + 1 + 1 + 1 + 1 ≤ D := by have := Hsz.out; omega
    have hK2 := Lib.hid hK
    have HB1 := Lib.hid hB1
    have I3 := Lib.hid i3
    have IOw := Lib.hid io
    obtain ⟨so, co, rfl, -, -⟩ := own_shape io
    obtain ⟨DL, hDL⟩ : ∃ DL, DL = l.flatMap (perE l a b) := ⟨_, rfl⟩
    rw [← hDL] at HS IOw b0 I3
    have HDL := Lib.hid hDL
    clear hDL
    clear i0 i1 i2 i4 i3 io hB1 hK hys hys2 hzl
    gi_wp2_with (gi_at_call 32; refine (HWd.out _ _ _ _ _ HS.out).mono ?_; rintro e w1 ⟨rfl, hb1, hg1, S, hp, hs, ho⟩; have HP1 := Lib.hid hp; have HS1 := Lib.hid hs; have HO1 := Lib.hid ho; have Hb1 := Lib.hid hb1; have Hg1 := Lib.hid hg1; have hbx1 := I3.out.kept hg1 (I3.out.not_row (by decide) IOw.out); have b1 := hbx1.cell; clear hp hs ho hb1 hg1)
    have hKlt := (Array.getElem?_eq_some_iff.1 hK2.out).1
    have hK3 : w1.heap[D]? = some (.deferred (some [])) := (Hg1.out.block D hKlt (fun e => by
      rcases IOw.out.2 with ⟨h0, -⟩ | ⟨g, cp, cur, h0, -, hc, -⟩
      · rw [h0] at e; cases e
      · rw [h0] at e
        cases e
        rw [hK2.out] at hc
        cases hc)).trans hK2.out
    refine ⟨by simp, .inl ⟨_, _, rfl, run_takeDeferred hK3, ?_⟩⟩
    refine ⟨_, results_tmp rfl _ _ _, ⟨_, S, rfl, dueOk_perm hok (by rw [← HDL.out]; exact HP1.out) (HS1.out.imp fun {x y} h => ?_), ownsRow_putObj HO1.out _ hK3 rfl, (HB1.out.trans Hb1.out).trans (belowK_b (w := w) (Nat.le_refl _) _ D _ _ (by omega) hK3 rfl rfl)⟩⟩
    rw [du_lt] at h
    exact of_decide_eq_false h
  case stop =>
    rintro D c pre W _ _ h _
    exact h.elim

theorem due_calls (v : Value) (l : List Ev) (a b : Int) (w : World) (h : EvsAt w v l) (hok : CycOk l) (hP : ∀ e ∈ l, (perE l a b e).length ≤ 40) (hl : l.length ≤ 40) :
    Calls Try.prog 14 #[v, .int .i64 a, .int .i64 b] w (DueOwn l a b w) := callsIn_wide.1 (due_in Fence.wide rfl 6 (Nat.le_refl _) v l a b w h hok hP hl)
end Go.Proofs.Ytmilpaibkemmdaa

namespace Go.Proofs.Ytmilpaibkemmdaa
open Go.RowKit

theorem recs_block {α : Type} {c : α → List Value} {sz : Nat} (hc : ∀ a, (c a).length = sz) (w : World) (l : List α) (t : TypeId) (cs : Array Value) (h : cs = (l.flatMap c).toArray) (hm : l.length ≤ maxLen) :
    RecAt c sz (w.alloc (.cells cs t)) (.slice (some ⟨w.heap.size, 0, none⟩) l.length l.length) l := by
  subst h
  refine RecAt.own (base := 0) (e := t) hc ?_
  exact World.ownsRow_lit (base := 0) w (l.flatMap c).toArray l.length (Nat.zero_le _) hm (by rw [List.size_toArray, flat_length c sz hc])
def smp1 : Ev := ⟨1641600, 1, 1, 0, ⟨#[]⟩, ⟨#[112, 111, 115, 116, 112, 97, 105, 100]⟩, 15⟩
def smp2 : Ev := ⟨3888000, 2, 1, 0, ⟨#[]⟩, ⟨#[]⟩, 0⟩
def smpL : List Ev := [smp1, smp2]
theorem smp_ok : CycOk smpL := by
  refine ⟨fun i h hk => ?_, fun i j hi hj h1 h2 _ => ?_, fun i h hk => ?_, fun i j hi hj h1 h2 _ => ?_⟩
  · match i, h, hk with
    | 0, _, _ => exact (by decide : (0 : Int) ≤ 1641600 ∧ (1641600 : Int) < 12622780800 ∧ (1 : Int) ≤ 15 ∧ (15 : Int) ≤ 28)
    | 1, _, hk => exact absurd hk (by decide : ¬ (2 : Int) = 1)
    | i + 2, h, _ => exact absurd (show i + 2 < 2 from h) (by omega)
  · match i, j, hi, hj, h1, h2 with
    | 0, 0, _, _, _, _ => rfl
    | 1, _, _, _, h1, _ => exact absurd h1 (by decide : ¬ (2 : Int) = 1)
    | _, 1, _, _, _, h2 => exact absurd h2 (by decide : ¬ (2 : Int) = 1)
    | i + 2, _, hi, _, _, _ => exact absurd (show i + 2 < 2 from hi) (by omega)
    | _, j + 2, _, hj, _, _ => exact absurd (show j + 2 < 2 from hj) (by omega)
  · match i, h, hk with
    | 1, _, _ => exact (by decide : (0 : Int) ≤ 3888000 ∧ (3888000 : Int) < 12622780800)
    | 0, _, hk => exact absurd hk (by decide : ¬ (1 : Int) = 2)
    | i + 2, h, _ => exact absurd (show i + 2 < 2 from h) (by omega)
  · match i, j, hi, hj, h1, h2 with
    | 1, 1, _, _, _, _ => rfl
    | 0, _, _, _, h1, _ => exact absurd h1 (by decide : ¬ (1 : Int) = 2)
    | _, 0, _, _, _, h2 => exact absurd h2 (by decide : ¬ (1 : Int) = 2)
    | i + 2, _, hi, _, _, _ => exact absurd (show i + 2 < 2 from hi) (by omega)
    | _, j + 2, _, hj, _, _ => exact absurd (show j + 2 < 2 from hj) (by omega)
theorem smp_open : openE smpL 1 = some smp1 := rfl
theorem smp_close : closeT smpL 1 = 3888000 := rfl
theorem lit_of1 : ofV smpL 1 3801600 0 = ((1209600, 3888000), 0) := by decide
theorem lit_of2 : ofV smpL 1 3888000 1 = ((0, 0), 17) := by decide
theorem lit_of3 : ofV smpL 1 1123200 (-1) = ((0, 0), 11) := by decide
theorem smp_mo1 : ∀ o, openE smpL 1 = some o → (0 : Int) ≤ 3801600 → (3801600 : Int) < 12622780800 → IsMo o.vl 3801600 0 := fun o h _ _ => by
  rw [smp_open] at h; cases h; exact ⟨by decide, by decide, by decide, by decide⟩
theorem smp_mo2 : ∀ o, openE smpL 1 = some o → (0 : Int) ≤ 3888000 → (3888000 : Int) < 12622780800 → IsMo o.vl 3888000 1 := fun o h _ _ => by
  rw [smp_open] at h; cases h; exact ⟨by decide, by decide, by decide, by decide⟩
theorem smp_mo3 : ∀ o, openE smpL 1 = some o → (0 : Int) ≤ 1123200 → (1123200 : Int) < 12622780800 → IsMo o.vl 1123200 (-1) := fun o h _ _ => by
  rw [smp_open] at h; cases h; exact ⟨by decide, by decide, by decide, by decide⟩
theorem beg15_0 : beg 15 0 = 1209600 := by decide
theorem beg15_1 : beg 15 1 = 3888000 := by decide
theorem smp_due {a b : Int} {d : Du} : IsDue smpL a b d → d = (1, (1209600, 3888000)) := by
  rintro ⟨e, he, hk, hac, m, -, -, hd, hm, -, -⟩
  have he' : e = smp1 ∨ e = smp2 := by simpa [smpL] using he
  rcases he' with rfl | rfl
  · have h1 : smp1.ac = 1 := rfl
    have hvl : smp1.vl = 15 := rfl
    have htm : smp1.tm = 1641600 := rfl
    rw [h1, smp_close, htm] at hm
    rw [hvl] at hd
    have hm := of_decide_eq_true hm
    have e1 : d.2.1 = beg 15 m := by rw [hd]; rfl
    have e2 : d.2.2 = beg 15 (m + 1) := by rw [hd]; rfl
    have m0 : m = 0 := by
      rcases Int.lt_trichotomy m 0 with h | h | h
      · have := beg_mono (a := 15) (by decide) (by decide) (show m + 1 ≤ 0 by omega)
        rw [beg15_0] at this
        omega
      · exact h
      · have := beg_mono (a := 15) (by decide) (by decide) (show 1 ≤ m by omega)
        rw [beg15_1] at this
        omega
    subst m0
    obtain ⟨d1, d2, d3⟩ := d
    rw [beg15_0] at e1
    rw [show (0 : Int) + 1 = 1 from rfl, beg15_1] at e2
    dsimp only at e1 e2 hac
    rw [e1, e2, ← hac, h1]
  · exact absurd hk (by decide)
theorem smp_isDue : IsDue smpL 0 12622780800 (1, (1209600, 3888000)) := ⟨smp1, by simp [smpL], rfl, rfl, 0, by decide, by decide, by decide, by decide, by decide, by decide⟩
theorem smp_dueOk : DueOk smpL 0 12622780800 [(1, (1209600, 3888000))] := by
  refine ⟨List.pairwise_singleton _ _, fun d => ?_⟩
  rw [List.mem_singleton]
  exact ⟨fun h => by rw [h]; exact smp_isDue, smp_due⟩
theorem one_of {α : Type} {X : α} : ∀ {l : List α}, l.Nodup → (∀ d ∈ l, d = X) → l.length ≤ 1
  | [], _, _ => by simp
  | [_], _, _ => by simp
  | x :: y :: r, h, g => by
    have h1 := g x (by simp)
    have h2 := g y (by simp)
    rw [h1, h2] at h
    exact absurd h (by simp)
theorem perE_nodup {l : List Ev} (hok : CycOk l) {a b : Int} {e : Ev} (he : e ∈ l) : (perE l a b e).Nodup := by
  unfold perE
  split
  · rename_i hk
    obtain ⟨o0, o1, v1, v2⟩ := open_bd hok he hk
    rw [List.Nodup, List.pairwise_map]
    refine List.Pairwise.imp (fun {c d} h h2 => ?_) ((lifeL_pair v1 v2 e.tm (closeT l e.ac) (max a 0) (min b 12622780800)).sublist (List.filter_sublist (p := inD a b)))
    cases h2
    omega
  · exact List.Pairwise.nil
theorem smp_per (e : Ev) (he : e ∈ smpL) : (perE smpL 0 12622780800 e).length ≤ 40 :=
  Nat.le_trans (one_of (perE_nodup smp_ok he) fun d hd => smp_due (a := 0) (b := 12622780800) (by
    obtain ⟨h1, h2, h3⟩ := (perE_mem smp_ok he).1 hd
    exact ⟨e, he, h1, h2, h3⟩)) (by decide)

set_option maxRecDepth 100000 in
set_option maxHeartbeats 3200000 in
theorem sample_calls (w : World) : Calls Try.prog 22 #[] w fun e w' => (∃ a c, e = .returned (.slice a 2 c) ∧ EvsAt w' (.slice a 2 c) smpL) ∧ Below w.heap.size w w' := by
  go_enter Try.func22, Try.ntmps22
  go_wp2
  go_ret
  refine ⟨⟨_, _, rfl, recs_block (c := evCells) (sz := 7) (fun _ => rfl) w smpL _ _ rfl (by unfold maxLen; decide), ?_⟩, (Below.refl _ _).alloc (Nat.le_refl _) _⟩
  intro e he
  have he' : e = smp1 ∨ e = smp2 := by simpa [smpL] using he
  rcases he' with rfl | rfl <;> exact ⟨by unfold maxLen; decide, by unfold maxLen; decide⟩
set_option maxRecDepth 100000 in
set_option maxHeartbeats 3200000 in
theorem valid43_calls (v : Value) (l : List Ev) (w : World) (h : EvsAt w v l) :
    Calls Try.prog 8 #[v] w fun e w' => (∃ b, e = .returned (.bool b) ∧ (b = true → l.length ≤ 40 ∧ CycOk l)) ∧ Below w.heap.size w w' := by
  have hh := h
  obtain ⟨av, cap, rfl, -, -⟩ := rec_shape h.1
  by_cases hl : l.length ≤ 40
  · have h1 : ¬ (40 : Int) < (l.length : Int) := by omega
    have HC := Lib.hid (check17_calls _ l w hh (by omega))
    go_enter Try.func8, Try.ntmps8
    go_wp2_with fail
    refine HC.out.mono ?_
    rintro e w1 ⟨p, r, rfl, hr, hb⟩
    have HR := Lib.hid hr
    have HB := Lib.hid hb
    clear hr hb
    go_wp2
    go_ret
    exact ⟨⟨_, rfl, fun h => ⟨hl, cycOk (HR.out (by simpa using h))⟩⟩, HB.out⟩
  · have h1 : (40 : Int) < (l.length : Int) := by omega
    go_enter Try.func8, Try.ntmps8
    go_wp2
    go_ret
    exact ⟨⟨_, rfl, fun h => by cases h⟩, Below.refl _ _⟩
end Go.Proofs.Ytmilpaibkemmdaa

namespace Go.Proofs.Ytmilpaibkemmdaa
open Go.RowKit

/-- Is an instant near another one? -/
def NearTo (a b : Int) (w : World) (e : Ending) (w' : World) : Prop := (∃ nb, e = .returned (.bool nb) ∧ (nb = true → b - a ≤ 69120000)) ∧ w = w'
set_option maxRecDepth 100000 in
set_option maxHeartbeats 3200000 in
theorem near_calls (a b : Int) (w : World) :
    Calls Try.prog 12 #[.int .i64 a, .int .i64 b] w (NearTo a b w) := by
  by_cases h : -1000 ≤ a ∧ b ≤ 12622781800 ∧ -1000 ≤ b ∧ a ≤ 12622781800
  · obtain ⟨h0, h1, h2, h3⟩ := h
    have hw : IntKind.i64.wrap (b - a) = b - a := IntWalk.i64_in _ (by omega)
    go_enter Try.func12, Try.ntmps12
    go_wp2
    go_ret
    exact ⟨⟨_, rfl, fun h => by simpa using h⟩, rfl⟩
  · by_cases h0 : -1000 ≤ a
    · by_cases h1 : b ≤ 12622781800
      · by_cases h2 : -1000 ≤ b
        · have h3 : ¬ a ≤ 12622781800 := fun h3 => h ⟨h0, h1, h2, h3⟩
          clear h
          go_enter Try.func12, Try.ntmps12
          go_wp2
          go_ret
          exact ⟨⟨_, rfl, fun h => by cases h⟩, rfl⟩
        · clear h
          go_enter Try.func12, Try.ntmps12
          go_wp2
          go_ret
          exact ⟨⟨_, rfl, fun h => by cases h⟩, rfl⟩
      · clear h
        go_enter Try.func12, Try.ntmps12
        go_wp2
        go_ret
        exact ⟨⟨_, rfl, fun h => by cases h⟩, rfl⟩
    · clear h
      go_enter Try.func12, Try.ntmps12
      go_wp2
      go_ret
      exact ⟨⟨_, rfl, fun h => by cases h⟩, rfl⟩

/-- A new block on top of a longer world. -/
theorem top_row {w0 w1 : World} (n : Nat) (h : Below n w0 w1) (hn : n ≤ w0.heap.size) (o : Obj) : (w1.alloc o).heap[w1.heap.size]? = some o ∧ Below n w0 (w1.alloc o) ∧ w1.heap.size < (w1.alloc o).heap.size :=
  ⟨heap_alloc_new _ _, h.alloc (by have := h.size; omega) _, by simp⟩
set_option maxRecDepth 100000 in
set_option maxHeartbeats 12800000 in
theorem alive43_calls (w : World) : Calls Try.prog 9 #[] w fun e w' => e = .returned (.bool true) ∧ Below w.heap.size w w' := by
  go_enter Try.func9, Try.ntmps9
  go_wp2_with fail
  refine (sample_calls w).mono ?_
  rintro e s1 ⟨⟨a1, c1, rfl, he1⟩, hs1⟩
  have HO1 := Lib.hid (of_calls _ smpL 1 3801600 0 s1 he1 smp_ok smp_mo1)
  rw [lit_of1] at HO1
  have Hs1 := Lib.hid hs1
  clear he1 hs1
  go_wp2_with fail
  refine HO1.out.mono ?_
  rintro e w1 ⟨he, hb1⟩
  obtain rfl : e = .returned (.tuple #[.agg #[.int .i64 1209600, .int .i64 3888000], .int .i64 0]) := he
  obtain ⟨r1, hx1, hz1⟩ := top_row w.heap.size (Hs1.out.trans (hb1.mono Hs1.out.size)) (Nat.le_refl _) (Obj.cells #[.int .i64 1209600, .int .i64 3888000] 26)
  obtain ⟨X1, hX1⟩ : ∃ X1, X1 = w1.alloc (Obj.cells #[.int .i64 1209600, .int .i64 3888000] 26) := ⟨_, rfl⟩
  rw [← hX1] at r1 hx1 hz1
  have HX1 := Lib.hid hX1
  have R1 := Lib.hid r1
  have HB1 := Lib.hid hx1
  clear hX1 r1 hx1 hb1 HO1 Hs1
  go_upto_region 2 with (fail)
  rw [← HX1.out]
  go_wp2_with fail
  refine (sample_calls X1).mono ?_
  rintro e s2 ⟨⟨a2, c2, rfl, he2⟩, hs2⟩
  have HO2 := Lib.hid (of_calls _ smpL 1 3888000 1 s2 he2 smp_ok smp_mo2)
  rw [lit_of2] at HO2
  have Hs2 := Lib.hid hs2
  clear he2 hs2
  go_wp2_with fail
  refine HO2.out.mono ?_
  rintro e w2 ⟨he, hb2⟩
  obtain rfl : e = .returned (.tuple #[.agg #[.int .i64 0, .int .i64 0], .int .i64 17]) := he
  obtain ⟨-, hx2, -⟩ := top_row X1.heap.size (Hs2.out.trans (hb2.mono Hs2.out.size)) (Nat.le_refl _) (Obj.cells #[.int .i64 0, .int .i64 0] 26)
  obtain ⟨X2, hX2⟩ : ∃ X2, X2 = w2.alloc (Obj.cells #[.int .i64 0, .int .i64 0] 26) := ⟨_, rfl⟩
  rw [← hX2] at hx2
  have HX2 := Lib.hid hX2
  have HB2 := Lib.hid hx2
  clear hX2 hx2 hb2 HO2 Hs2
  go_upto_region 3 with (fail)
  rw [← HX2.out]
  go_wp2_with fail
  refine (sample_calls X2).mono ?_
  rintro e s3 ⟨⟨a3, c3, rfl, he3⟩, hs3⟩
  have HO3 := Lib.hid (of_calls _ smpL 1 1123200 (-1) s3 he3 smp_ok smp_mo3)
  rw [lit_of3] at HO3
  have Hs3 := Lib.hid hs3
  clear he3 hs3
  go_wp2_with fail
  refine HO3.out.mono ?_
  rintro e w3 ⟨he, hb3⟩
  obtain rfl : e = .returned (.tuple #[.agg #[.int .i64 0, .int .i64 0], .int .i64 11]) := he
  obtain ⟨-, hx3, -⟩ := top_row X2.heap.size (Hs3.out.trans (hb3.mono Hs3.out.size)) (Nat.le_refl _) (Obj.cells #[.int .i64 0, .int .i64 0] 26)
  obtain ⟨X3, hX3⟩ : ∃ X3, X3 = w3.alloc (Obj.cells #[.int .i64 0, .int .i64 0] 26) := ⟨_, rfl⟩
  rw [← hX3] at hx3
  have HX3 := Lib.hid hX3
  have HB3 := Lib.hid hx3
  clear hX3 hx3 hb3 HO3 Hs3
  go_upto_region 4 with (fail)
  rw [← HX3.out]
  go_wp2_with fail
  refine (sample_calls X3).mono ?_
  rintro e s4 ⟨⟨a4, c4, rfl, he4⟩, hs4⟩
  have HO4 := Lib.hid (due_calls _ smpL 0 12622780800 s4 he4 smp_ok smp_per (by decide))
  have Hs4 := Lib.hid hs4
  clear he4 hs4
  go_wp2_with fail
  refine HO4.out.mono ?_
  rintro e w4 ⟨vd, D, rfl, hd, hown, hb4⟩
  obtain rfl : D = [(1, (1209600, 3888000))] := hd.one smp_dueOk
  obtain ⟨ad, cd, rfl, -, -⟩ := own_shape hown
  have hrd := RecAt.own (c := duCells) (sz := 3) (fun _ => rfl) hown
  obtain ⟨r5, hx5, hz5⟩ := top_row X3.heap.size (Hs4.out.trans (hb4.mono Hs4.out.size)) (Nat.le_refl _) (Obj.cells #[.int .i64 1209600, .int .i64 3888000] 26)
  have hg5 : Below w4.heap.size w4 (w4.alloc (Obj.cells #[.int .i64 1209600, .int .i64 3888000] 26)) := (Below.refl _ _).alloc (Nat.le_refl _) _
  obtain ⟨X5, hX5⟩ : ∃ X5, X5 = w4.alloc (Obj.cells #[.int .i64 1209600, .int .i64 3888000] 26) := ⟨_, rfl⟩
  rw [← hX5] at r5 hx5 hz5 hg5
  have HX5 := Lib.hid hX5
  have hrd5 := hrd.below hg5
  have hb35 := HB2.out.trans (HB3.out.mono HB2.out.size)
  have hb15 := hb35.trans (hx5.mono hb35.size)
  have r15 := (hb15.block _ hz1).trans R1.out
  have p0 := cell_of_row X5 _ 0 _ _ _ r15
  have p1 := cell_of_row X5 _ 1 _ _ _ r15
  have q0 := cell_of_row X5 _ 0 _ _ _ r5
  have q1 := cell_of_row X5 _ 1 _ _ _ r5
  have HT := Lib.hid (show ∀ Y, Y = X5.alloc (Obj.cells #[.int .i64 1, .int .i64 1209600, .int .i64 3888000] 47) → Calls Try.prog 13 #[.slice ad 1 cd, .slice (some ⟨X5.heap.size, 0, none⟩) 1 1] Y fun e w' => e = .returned (.bool true) ∧ Below Y.heap.size Y w' from fun Y hY => by
    subst hY
    exact rsameD_calls (.slice ad 1 cd) _ [(1, (1209600, 3888000))] [(1, (1209600, 3888000))] _ (hrd5.below ((Below.refl _ _).alloc (Nat.le_refl _) _)) (RecAt.one (c := duCells) (sz := 3) X5 (1, (1209600, 3888000)) 47 _ rfl))
  have HE := Lib.hid (HB1.out.trans (hb15.mono HB1.out.size))
  clear hd hown hrd hrd5 hb35 hb15 r15 r5 hx5 hg5 hX5 hb4 HO4 Hs4
  go_upto_region 6 with (fail)
  rw [← HX5.out]
  go_wp2_with fail
  refine (HT.out _ rfl).mono ?_
  rintro e w9 ⟨rfl, hb9⟩
  have hE9 := HE.out.trans ((((Below.refl _ _).alloc (Nat.le_refl _) _).trans (hb9.mono (by simp))).mono HE.out.size)
  have HE9 := Lib.hid hE9
  clear hE9 hb9 p0 p1 q0 q1
  go_wp2
  go_ret
  exact ⟨rfl, HE9.out⟩
end Go.Proofs.Ytmilpaibkemmdaa

namespace Go.Proofs.Ytmilpaibkemmdaa
open Go.RowKit

/-- The month of an instant's cycle of an account. -/
noncomputable def moX (l : List Ev) (n t : Int) : Int := match openE l n with | some o => moOf o.vl t | none => 0
theorem moX_is {l : List Ev} {n t : Int} (o : Ev) (h : openE l n = some o) (h0 : 0 ≤ t) (h1 : t < 12622780800) : IsMo o.vl t (moX l n t) := by
  unfold moX
  rw [h]
  exact moOf_is h0 h1
/-- A truth that says something. -/
def TruthTo (P : Prop) (w : World) (e : Ending) (w' : World) : Prop := (∃ b, e = .returned (.bool b) ∧ (b = true → P)) ∧ Below w.heap.size w w'
theorem valid_to (v : Value) (l : List Ev) (w : World) (h : EvsAt w v l) : Calls Try.prog 8 #[v] w (TruthTo (l.length ≤ 40 ∧ CycOk l) w) := valid43_calls v l w h

set_option maxRecDepth 100000 in
set_option maxHeartbeats 6400000 in
theorem ofs43_law (v : Value) (l : List Ev) (n t : Int) (w : World) (h : EvsAt w v l) :
    Calls Try.prog 3 #[v, .int .i64 n, .int .i64 t] w fun e w' => e = .returned (.bool true) ∧ Below w.heap.size w w' := by
  have hh := h
  have HV := Lib.hid (valid_to v l w h)
  obtain ⟨av, cap, rfl, -, -⟩ := rec_shape h.1
  go_enter Try.func3, Try.ntmps3
  go_wp2_with fail
  refine HV.out.mono ?_
  rintro e w1 ⟨⟨b, rfl, hv⟩, hb1⟩
  have Hb1 := Lib.hid hb1
  have Hv := Lib.hid hv
  have HH := Lib.hid (hh.below hb1)
  clear hb1 hv hh h
  cases b with
  | false =>
    go_wp2_with fail
    refine (alive43_calls w1).mono ?_
    rintro e w2 ⟨rfl, hb2⟩
    have Hb2 := Lib.hid hb2
    clear hb2
    go_wp2
    go_ret
    exact ⟨rfl, Hb1.out.trans (Hb2.out.mono Hb1.out.size)⟩
  | true =>
    obtain ⟨hl, hok⟩ := Hv.out rfl
    have HP := Lib.hid (fun Y (hY : Below w1.heap.size w1 Y) => of_calls _ l n t (moX l n t) Y (HH.out.below hY) hok (fun o ho h0 h1 => moX_is o ho h0 h1))
    have HR := Lib.hid (fun Y (hY : Below w1.heap.size w1 Y) => rof_calls _ l n t (moX l n t) Y (HH.out.below hY) hok (fun o ho h0 h1 => moX_is o ho h0 h1))
    generalize ofV l n t (moX l n t) = r at *
    obtain ⟨⟨c0, c1⟩, ec⟩ := r
    clear hok Hv
    go_wp2_with fail
    refine (HP.out w1 (Below.refl _ _)).mono ?_
    rintro e w2 ⟨he, hb2⟩
    obtain rfl : e = .returned (.tuple #[.agg #[.int .i64 c0, .int .i64 c1], .int .i64 ec]) := he
    obtain ⟨r2, hx2, hz2⟩ := top_row w1.heap.size hb2 (Nat.le_refl _) (Obj.cells #[.int .i64 c0, .int .i64 c1] 26)
    obtain ⟨X, hX⟩ : ∃ X, X = w2.alloc (Obj.cells #[.int .i64 c0, .int .i64 c1] 26) := ⟨_, rfl⟩
    rw [← hX] at r2 hx2 hz2
    have HX := Lib.hid hX
    have R2 := Lib.hid r2
    have HX2 := Lib.hid hx2
    clear hX r2 hx2 hb2
    go_upto_region 4 with (fail)
    rw [← HX.out]
    go_wp2_with fail
    refine (HR.out X HX2.out).mono ?_
    rintro e w3 ⟨he, hb3⟩
    obtain rfl : e = .returned (.tuple #[.agg #[.int .i64 c0, .int .i64 c1], .int .i64 ec]) := he
    obtain ⟨r3, hx3, hz3⟩ := top_row X.heap.size hb3 (Nat.le_refl _) (Obj.cells #[.int .i64 c0, .int .i64 c1] 26)
    obtain ⟨Y, hY⟩ : ∃ Y, Y = w3.alloc (Obj.cells #[.int .i64 c0, .int .i64 c1] 26) := ⟨_, rfl⟩
    rw [← hY] at r3 hx3 hz3
    have HY := Lib.hid hY
    have rX := (hx3.block _ hz2).trans R2.out
    have p0 := cell_of_row Y _ 0 _ _ _ rX
    have p1 := cell_of_row Y _ 1 _ _ _ rX
    have q0 := cell_of_row Y _ 0 _ _ _ r3
    have q1 := cell_of_row Y _ 1 _ _ _ r3
    have HE := Lib.hid (Hb1.out.trans ((HX2.out.trans (hx3.mono HX2.out.size)).mono Hb1.out.size))
    clear hY r3 hx3 hb3 rX
    go_upto_region 5 with (fail)
    rw [← HY.out]
    go_wp2_with fail
    refine (alive43_calls Y).mono ?_
    rintro e w9 ⟨rfl, hb9⟩
    have HE9 := Lib.hid (HE.out.trans (hb9.mono HE.out.size))
    clear hb9 p0 p1 q0 q1
    go_wp2
    go_ret
    exact ⟨rfl, HE9.out⟩
end Go.Proofs.Ytmilpaibkemmdaa

namespace Go.Proofs.Ytmilpaibkemmdaa
open Go.RowKit

theorem ofV_ok {l : List Ev} {n t m c0 c1 : Int} (h : ofV l n t m = ((c0, c1), 0)) : 0 ≤ t ∧ t < 12622780800 ∧ ∃ o, openE l n = some o ∧ (c0, c1) = cyc o.vl m ∧ meetsL o.tm (closeT l n) (c0, c1) = true := by
  unfold ofV at h
  split at h
  · cases h
  · rename_i ht
    have ht := Classical.not_not.1 ht
    split at h
    · cases h
    · rename_i o ho
      split at h
      · cases h
      · split at h
        · rename_i hm
          have e : cyc o.vl m = (c0, c1) := congrArg Prod.fst h
          rw [e] at hm
          exact ⟨ht.1, ht.2, o, ho, e.symm, hm⟩
        · cases h
theorem ofV_no {l : List Ev} {n t m c0 c1 ec : Int} (h : ofV l n t m = ((c0, c1), ec)) (he : ec ≠ 0) : c0 = 0 ∧ c1 = 0 := by
  unfold ofV at h
  split at h
  · cases h; exact ⟨rfl, rfl⟩
  · split at h
    · cases h; exact ⟨rfl, rfl⟩
    · split at h
      · cases h; exact ⟨rfl, rfl⟩
      · split at h
        · have e2 := congrArg Prod.snd h
          exact absurd e2.symm he
        · cases h; exact ⟨rfl, rfl⟩
theorem cycL_one (a m : Int) : cycL a m m = [cyc a m] := by
  have h := cycL_snoc (a := a) (lo := m) (hi := m - 1) (by omega)
  rw [show m - 1 + 1 = m by omega, cycL_nil (show m - 1 < m by omega)] at h
  exact h
theorem one_list {l : List Ev} {n m c0 c1 : Int} {o : Ev} (ho : openE l n = some o) (hc : (c0, c1) = cyc o.vl m) (hm : meetsL o.tm (closeT l n) (c0, c1) = true) : listV l n true m m = [(c0, c1)] := by
  unfold listV
  rw [ho]
  show (if (true = true) then (cycL o.vl m m).filter (meetsL o.tm (closeT l n)) else []) = _
  rw [if_pos rfl, cycL_one, ← hc, List.filter_cons, if_pos hm]
  rfl

set_option maxRecDepth 100000 in
set_option maxHeartbeats 6400000 in
theorem lists43_law (v : Value) (l : List Ev) (n f t : Int) (w : World) (h : EvsAt w v l) :
    Calls Try.prog 6 #[v, .int .i64 n, .agg #[.int .i64 f, .int .i64 t]] w fun e w' => e = .returned (.bool true) ∧ Below w.heap.size w w' := by
  have hh := h
  obtain ⟨av, cap, rfl, -, -⟩ := rec_shape h.1
  obtain ⟨W, hW⟩ : ∃ W, W = w.alloc (Obj.cells #[Value.int .i64 f, Value.int .i64 t] 26) := ⟨_, rfl⟩
  have hw0 : Below w.heap.size w W := by rw [hW]; exact (Below.refl _ _).alloc (Nat.le_refl _) _
  have rW : W.heap[w.heap.size]? = some (Obj.cells #[Value.int .i64 f, Value.int .i64 t] 26) := by rw [hW]; exact heap_alloc_new _ _
  have hzW : w.heap.size < W.heap.size := by rw [hW]; simp
  have HM := Lib.hid (show ∀ w', Below W.heap.size W w' → w'.cell? ⟨w.heap.size, 0, none⟩ = some (.int .i64 f) ∧ w'.cell? ⟨w.heap.size, 1, none⟩ = some (.int .i64 t) from fun w' hb => by
    have q := (hb.block _ hzW).trans rW
    exact ⟨cell_of_row w' _ 0 _ _ _ q, cell_of_row w' _ 1 _ _ _ q⟩)
  have HV := Lib.hid (valid_to _ l W (hh.below hw0))
  have HRv := Lib.hid (rvalid_calls f t ·)
  have HW := Lib.hid hW
  have Hw0 := Lib.hid hw0
  clear hW rW
  go_enter Try.func6, Try.ntmps6
  go_upto_region 1 with (fail)
  rw [← HW.out]
  go_wp2_with fail
  refine HV.out.mono ?_
  rintro e w1 ⟨⟨b, rfl, hv⟩, hb1⟩
  have Hb1 := Lib.hid hb1
  have Hv := Lib.hid hv
  obtain ⟨m0, m1⟩ := HM.out w1 hb1
  have HH := Lib.hid (hh.below (hw0.trans (hb1.mono hw0.size)))
  clear hb1 hv hh h hw0 HV
  cases b with
  | false =>
    go_wp2_with fail
    refine (alive43_calls w1).mono ?_
    rintro e w2 ⟨rfl, hb2⟩
    have Hb2 := Lib.hid (Hw0.out.trans ((Hb1.out.trans (hb2.mono Hb1.out.size)).mono Hw0.out.size))
    clear hb2
    go_wp2
    go_ret
    exact ⟨rfl, Hb2.out⟩
  | true =>
    obtain ⟨hl, hok⟩ := Hv.out rfl
    have HRv1 := Lib.hid (HRv.out w1)
    have HP := Lib.hid (fun Y (hY : Below w1.heap.size w1 Y) => list_calls _ l n f t (moX l n f) (moX l n (t - 1)) Y (HH.out.below hY) hok (fun o ho hv => by
      have hv := (validB_iff _ _).1 hv
      exact ⟨moX_is o ho hv.1 (by omega), moX_is o ho (by omega) (by omega)⟩))
    have HR := Lib.hid (fun Y (hY : Below w1.heap.size w1 Y) => rlist_calls _ l n f t (moX l n f) (moX l n (t - 1)) Y (HH.out.below hY) hok (fun o ho hv => by
      have hv := (validB_iff _ _).1 hv
      exact ⟨moX_is o ho hv.1 (by omega), moX_is o ho (by omega) (by omega)⟩))
    generalize listV l n (validB f t) (moX l n f) (moX l n (t - 1)) = LV at *
    have hws : IntKind.i64.wrap (t - f) = t - f ∨ validB f t = false := by
      cases hv : validB f t with
      | false => exact Or.inr rfl
      | true =>
        have := (validB_iff _ _).1 hv
        exact Or.inl (IntWalk.i64_in _ (by omega))
    have Hws := Lib.hid hws
    clear hok Hv hws
    go_wp2_with fail
    refine HRv1.out.mono ?_
    rintro e w2 ⟨rfl, hb2⟩
    have Hb2 := Lib.hid hb2
    clear m0 m1
    obtain ⟨m0, m1⟩ := HM.out w2 (Hb1.out.trans (hb2.mono Hb1.out.size))
    have Mk := Lib.hid (show ∀ w' : World, Below w2.heap.size w2 w' → Below w2.heap.size w2 w' ∧ w'.cell? ⟨w.heap.size, 0, none⟩ = some (.int .i64 f) ∧ w'.cell? ⟨w.heap.size, 1, none⟩ = some (.int .i64 t) from fun w' hb => ⟨hb, HM.out w' (Hb1.out.trans ((Hb2.out.trans (hb.mono Hb2.out.size)).mono Hb1.out.size))⟩)
    have hw2 := Hw0.out.trans ((Hb1.out.trans (hb2.mono Hb1.out.size)).mono Hw0.out.size)
    have Hw2 := Lib.hid hw2
    clear hb2 hw2
    by_cases hlong : validB f t = true ∧ 69120000 < t - f
    · obtain ⟨hvt, hgt⟩ := hlong
      rw [hvt]
      have hwr := Hws.out.resolve_right (by rw [hvt]; decide)
      clear hvt
      go_wp2_with fail
      refine (alive43_calls w2).mono ?_
      rintro e w3 ⟨rfl, hb3⟩
      have Hb3 := Lib.hid (Hw2.out.trans (hb3.mono Hw2.out.size))
      clear hb3
      go_wp2
      go_ret
      exact ⟨rfl, Hb3.out⟩
    · have hr2 := Below.refl w2.heap.size w2
      cases hvt : validB f t with
      | false =>
        clear Hws hlong hvt
        go_upto_region 3 with (fail)
        go_region_held3 (fun w' : World => Below w2.heap.size w2 w' ∧ w'.cell? ⟨w.heap.size, 0, none⟩ = some (.int .i64 f) ∧ w'.cell? ⟨w.heap.size, 1, none⟩ = some (.int .i64 t))
          (first
            | with_reducible exact Mk.out _ (by assumption)
            | with_reducible exact Mk.out _ (Below.drew (by assumption)))
          (first
            | (go_at_call 18
               with_reducible (refine (HP.out _ (Hb2.out.trans (Below.mono (And.left (by assumption)) Hb2.out.size))).mono ?_)
               rintro e wa ⟨va, rfl, hpa, hbz⟩
               have hYa : Below w2.heap.size w2 wa := Below.trans (And.left (by assumption)) (hbz.mono (Below.size (And.left (by assumption))))
               have Hba := Lib.hid hbz
               have HPa := Lib.hid hpa
               obtain ⟨aa, ca, rfl, -⟩ := hpa
               clear hbz)
            | (go_at_call 19
               with_reducible (refine (HR.out _ (Hb2.out.trans (Below.mono (And.left (by assumption)) Hb2.out.size))).mono ?_)
               rintro e wb ⟨vb, rfl, hpb, hbz⟩
               have hYb : Below w2.heap.size w2 wb := Below.trans (And.left (by assumption)) (hbz.mono (Below.size (And.left (by assumption))))
               have Hbb := Lib.hid hbz
               have HPb := Lib.hid hpb
               obtain ⟨ab, cb, rfl, -⟩ := hpb
               clear hbz)
            | (go_at_call 17
               (first
                 | refine (rsame_calls _ _ LV LV _ (HPa.out.below Hbb.out) HPb.out).mono ?_
                 | refine (rsame_calls _ _ LV LV _ HPa.out (HPb.out.below Hba.out)).mono ?_)
               rw [decide_eq_true rfl]
               rintro e wc ⟨rfl, hbz⟩
               have hYc : Below w2.heap.size w2 wc := Below.trans (And.left (by assumption)) (hbz.mono (Below.size (And.left (by assumption))))
               clear hbz)
            | (go_at_call 9
               with_reducible (refine (alive43_calls _).mono ?_)
               rintro e wd ⟨rfl, hbz⟩
               have hYd : Below w2.heap.size w2 wd := Below.trans (And.left (by assumption)) (hbz.mono (Below.size (And.left (by assumption))))
               clear hbz))
        go_wp2
        go_ret
        exact ⟨rfl, Hw2.out.trans (hYd.mono Hw2.out.size)⟩
      | true =>
        have hwr := Hws.out.resolve_right (by rw [hvt]; decide)
        have hgt : ¬ 69120000 < t - f := fun h => hlong ⟨hvt, h⟩
        clear Hws hlong hvt
        go_upto_region 3 with (fail)
        go_region_held3 (fun w' : World => Below w2.heap.size w2 w' ∧ w'.cell? ⟨w.heap.size, 0, none⟩ = some (.int .i64 f) ∧ w'.cell? ⟨w.heap.size, 1, none⟩ = some (.int .i64 t))
          (first
            | with_reducible exact Mk.out _ (by assumption)
            | with_reducible exact Mk.out _ (Below.drew (by assumption)))
          (first
            | (go_at_call 18
               with_reducible (refine (HP.out _ (Hb2.out.trans (Below.mono (And.left (by assumption)) Hb2.out.size))).mono ?_)
               rintro e wa ⟨va, rfl, hpa, hbz⟩
               have hYa : Below w2.heap.size w2 wa := Below.trans (And.left (by assumption)) (hbz.mono (Below.size (And.left (by assumption))))
               have Hba := Lib.hid hbz
               have HPa := Lib.hid hpa
               obtain ⟨aa, ca, rfl, -⟩ := hpa
               clear hbz)
            | (go_at_call 19
               with_reducible (refine (HR.out _ (Hb2.out.trans (Below.mono (And.left (by assumption)) Hb2.out.size))).mono ?_)
               rintro e wb ⟨vb, rfl, hpb, hbz⟩
               have hYb : Below w2.heap.size w2 wb := Below.trans (And.left (by assumption)) (hbz.mono (Below.size (And.left (by assumption))))
               have Hbb := Lib.hid hbz
               have HPb := Lib.hid hpb
               obtain ⟨ab, cb, rfl, -⟩ := hpb
               clear hbz)
            | (go_at_call 17
               (first
                 | refine (rsame_calls _ _ LV LV _ (HPa.out.below Hbb.out) HPb.out).mono ?_
                 | refine (rsame_calls _ _ LV LV _ HPa.out (HPb.out.below Hba.out)).mono ?_)
               rw [decide_eq_true rfl]
               rintro e wc ⟨rfl, hbz⟩
               have hYc : Below w2.heap.size w2 wc := Below.trans (And.left (by assumption)) (hbz.mono (Below.size (And.left (by assumption))))
               clear hbz)
            | (go_at_call 9
               with_reducible (refine (alive43_calls _).mono ?_)
               rintro e wd ⟨rfl, hbz⟩
               have hYd : Below w2.heap.size w2 wd := Below.trans (And.left (by assumption)) (hbz.mono (Below.size (And.left (by assumption))))
               clear hbz))
        go_wp2
        go_ret
        exact ⟨rfl, Hw2.out.trans (hYd.mono Hw2.out.size)⟩

set_option maxRecDepth 100000 in
set_option maxHeartbeats 6400000 in
theorem one43_law (v : Value) (l : List Ev) (n t : Int) (w : World) (h : EvsAt w v l) :
    Calls Try.prog 7 #[v, .int .i64 n, .int .i64 t] w fun e w' => e = .returned (.bool true) ∧ Below w.heap.size w w' := by
  have hh := h
  have HV := Lib.hid (valid_to v l w h)
  obtain ⟨av, cap, rfl, -, -⟩ := rec_shape h.1
  go_enter Try.func7, Try.ntmps7
  go_wp2_with fail
  refine HV.out.mono ?_
  rintro e w1 ⟨⟨b, rfl, hv⟩, hb1⟩
  have Hb1 := Lib.hid hb1
  have Hv := Lib.hid hv
  have HH := Lib.hid (hh.below hb1)
  clear hb1 hv hh h
  cases b with
  | false =>
    go_wp2_with fail
    refine (alive43_calls w1).mono ?_
    rintro e w2 ⟨rfl, hb2⟩
    have Hb2 := Lib.hid hb2
    clear hb2
    go_wp2
    go_ret
    exact ⟨rfl, Hb1.out.trans (Hb2.out.mono Hb1.out.size)⟩
  | true =>
    obtain ⟨hl, hok⟩ := Hv.out rfl
    have HP := Lib.hid (of_calls _ l n t (moX l n t) w1 HH.out hok (fun o ho h0 h1 => moX_is o ho h0 h1))
    obtain ⟨c0, c1, ec, hr⟩ : ∃ c0 c1 ec, ofV l n t (moX l n t) = ((c0, c1), ec) := ⟨_, _, _, rfl⟩
    rw [hr] at HP
    by_cases hec : ec = 0
    · subst hec
      obtain ⟨t0, t1, o, ho, hcy, hmt⟩ := ofV_ok hr
      have hmo := moX_is (l := l) (n := n) (t := t) o ho t0 t1
      obtain ⟨ho1, ho2, ho3⟩ := openE_some ho
      obtain ⟨o0, o1, v1, v2⟩ := open_bd hok ho1 ho2
      have hvt : validB t (t + 1) = true := by rw [validB_iff]; omega
      have hL := fun Y (hY : Below w1.heap.size w1 Y) => list_calls _ l n t (t + 1) (moX l n t) (moX l n t) Y (HH.out.below hY) hok (fun o' ho' _ => by
        rw [ho] at ho'
        cases ho'
        rw [show t + 1 - 1 = t by omega]
        exact ⟨hmo, hmo⟩)
      rw [hvt, one_list ho hcy hmt] at hL
      have HL := Lib.hid hL
      have HCn := Lib.hid (show containsB c0 c1 t = true by
        have e0 : c0 = beg o.vl (moX l n t) := congrArg Prod.fst hcy
        have e1 : c1 = beg o.vl (moX l n t + 1) := congrArg Prod.snd hcy
        obtain ⟨m0, m1, m2, m3⟩ := hmo
        have hb0 := beg_bd (m := moX l n t) v1 v2
        have hb1 := beg_bd (m := moX l n t + 1) v1 v2
        rw [containsB_iff]
        omega)
      have hw : IntKind.i64.wrap (t + 1) = t + 1 := IntWalk.i64_in _ (by omega)
      clear hr hcy hmt hmo ho1 ho2 ho3 o0 o1 v1 v2 hvt hL ho hok Hv
      go_wp2_with fail
      refine HP.out.mono ?_
      rintro e w2 ⟨he, hb2⟩
      obtain rfl : e = .returned (.tuple #[.agg #[.int .i64 c0, .int .i64 c1], .int .i64 0]) := he
      obtain ⟨r2, hx2, hz2⟩ := top_row w1.heap.size hb2 (Nat.le_refl _) (Obj.cells #[.int .i64 c0, .int .i64 c1] 26)
      obtain ⟨X, hX⟩ : ∃ X, X = w2.alloc (Obj.cells #[.int .i64 c0, .int .i64 c1] 26) := ⟨_, rfl⟩
      rw [← hX] at r2 hx2 hz2
      have HX := Lib.hid hX
      have R2 := Lib.hid r2
      have HX2 := Lib.hid hx2
      clear hX r2 hx2 hb2
      go_upto_region 4 with (fail)
      rw [← HX.out]
      go_wp2_with fail
      refine (HL.out X HX2.out).mono ?_
      rintro e w3 ⟨v3, rfl, hp3, hb3⟩
      obtain ⟨a3, n3, rfl, -, -, hx3⟩ := hp3
      obtain ⟨bb, off, rfl, hB3, hc3⟩ := hx3 (by simp)
      obtain ⟨d0, d1⟩ := hc3 0 (by simp)
      rw [Nat.zero_mul, Nat.add_zero] at d0 d1
      simp only [List.getElem_cons_zero] at d0 d1
      have rX := (hb3.block _ hz2).trans R2.out
      have hltX : w2.heap.size < w3.heap.size := Nat.lt_of_lt_of_le hz2 hb3.size
      have p0 := cell_of_row w3 _ 0 _ _ _ rX
      have p1 := cell_of_row w3 _ 1 _ _ _ rX
      have fp0 := fun p : BelowOf w3 => BelowOf.cell (a := ⟨w2.heap.size, 0, none⟩) hltX p0 p
      have fp1 := fun p : BelowOf w3 => BelowOf.cell (a := ⟨w2.heap.size, 1, none⟩) hltX p1 p
      have fd0 := fun p : BelowOf w3 => BelowOf.cell (a := ⟨bb, off, none⟩) hB3 d0 p
      have fd1 := fun p : BelowOf w3 => BelowOf.cell (a := ⟨bb, off + 1, none⟩) hB3 d1 p
      have e1 : (c0 == c0) = true := beq_self_eq_true _
      have e2 : (c1 == c1) = true := beq_self_eq_true _
      have HE := Lib.hid (Hb1.out.trans ((HX2.out.trans (hb3.mono HX2.out.size)).mono Hb1.out.size))
      clear hx3 hc3 rX hb3 p0 p1 d0 d1 hB3
      go_upto_region 7 with (fail)
      refine wp_region_quiet_below (Below.refl w3.heap.size w3) (by kernel_rfl) (by kernel_rfl) ?_
      repeat (go_big_quiet_step (first | (go_at_call 20; refine calls_below_of (v := .bool true) ((rcontains_calls c0 c1 t _).mono (fun e w' h => by rw [HCn.out] at h; exact h)) (fun e w' h => h)) | (go_at_call 9; refine calls_below_of (v := .bool true) (alive43_calls _) (fun e w' h => h))))
      refine wpQuiet_nil ?_
      intro wq hw'
      have hYq : Below w3.heap.size w3 wq := by obtain ⟨pq, rfl⟩ := hw'; exact pq.h
      have HYq := Lib.hid (HE.out.trans (hYq.mono HE.out.size))
      clear hw' fp0 fp1 fd0 fd1 hYq
      go_wp2
      go_ret
      exact ⟨rfl, HYq.out⟩
    · obtain ⟨rfl, rfl⟩ := ofV_no hr hec
      have hen : (ec != 0) = true := bne_iff_ne.2 hec
      clear hr hok Hv
      go_wp2_with fail
      refine HP.out.mono ?_
      rintro e w2 ⟨he, hb2⟩
      obtain rfl : e = .returned (.tuple #[.agg #[.int .i64 0, .int .i64 0], .int .i64 ec]) := he
      obtain ⟨r2, hx2, hz2⟩ := top_row w1.heap.size hb2 (Nat.le_refl _) (Obj.cells #[.int .i64 0, .int .i64 0] 26)
      obtain ⟨X, hX⟩ : ∃ X, X = w2.alloc (Obj.cells #[.int .i64 0, .int .i64 0] 26) := ⟨_, rfl⟩
      rw [← hX] at r2 hx2 hz2
      have HX := Lib.hid hX
      have x0 := cell_of_row X _ 0 _ _ _ r2
      have x1 := cell_of_row X _ 1 _ _ _ r2
      have HX2 := Lib.hid (Hb1.out.trans (hx2.mono Hb1.out.size))
      clear hX r2 hx2 hb2
      go_upto_region 4 with (fail)
      rw [← HX.out]
      go_wp2_with fail
      refine (alive43_calls X).mono ?_
      rintro e w9 ⟨rfl, hb9⟩
      have HE9 := Lib.hid (HX2.out.trans (hb9.mono HX2.out.size))
      clear hb9 x0 x1
      go_wp2
      go_ret
      exact ⟨rfl, HE9.out⟩
end Go.Proofs.Ytmilpaibkemmdaa

namespace Go.Proofs.Ytmilpaibkemmdaa
open Go.RowKit

theorem ins_len {l : List Ev} (hok : CycOk l) {a b : Int} (hn : b - a ≤ 69120000) (hl : l.length ≤ 40) : (l.flatMap (perE l a b)).length ≤ 1600 := dues_len hok hn hl

set_option maxRecDepth 100000 in
set_option maxHeartbeats 6400000 in
theorem dues43_law (v : Value) (l : List Ev) (a b : Int) (w : World) (h : EvsAt w v l) :
    Calls Try.prog 4 #[v, .int .i64 a, .int .i64 b] w fun e w' => e = .returned (.bool true) ∧ Below w.heap.size w w' := by
  have hh := h
  have HV := Lib.hid (valid_to v l w h)
  obtain ⟨av, cap, rfl, -, -⟩ := rec_shape h.1
  go_enter Try.func4, Try.ntmps4
  go_wp2_with fail
  refine HV.out.mono ?_
  rintro e w1 ⟨⟨bv, rfl, hv⟩, hb1⟩
  have Hb1 := Lib.hid hb1
  have Hv := Lib.hid hv
  have HH := Lib.hid (hh.below hb1)
  clear hb1 hv hh h
  cases bv with
  | false =>
    go_wp2_with fail
    refine (alive43_calls w1).mono ?_
    rintro e w2 ⟨rfl, hb2⟩
    have Hb2 := Lib.hid hb2
    clear hb2
    go_wp2
    go_ret
    exact ⟨rfl, Hb1.out.trans (Hb2.out.mono Hb1.out.size)⟩
  | true =>
    obtain ⟨hl, hok⟩ := Hv.out rfl
    go_wp2_with fail
    refine (near_calls a b w1).mono ?_
    rintro e w2 ⟨⟨nb, rfl, hn⟩, rfl⟩
    have Hn := Lib.hid hn
    clear hn
    cases nb with
    | false =>
      go_wp2_with fail
      refine (alive43_calls w1).mono ?_
      rintro e w2 ⟨rfl, hb2⟩
      have Hb2 := Lib.hid hb2
      clear hb2
      go_wp2
      go_ret
      exact ⟨rfl, Hb1.out.trans (Hb2.out.mono Hb1.out.size)⟩
    | true =>
      have HP := Lib.hid (due_calls _ l a b w1 HH.out hok (fun e he => perE_len hok (Hn.out rfl) he) hl)
      have HR := Lib.hid (fun Y (hY : Below w1.heap.size w1 Y) => rdue_calls _ l a b Y (HH.out.below hY) hok (Nat.le_trans (ins_len hok (Hn.out rfl) hl) (by decide)))
      have HD := Lib.hid (dueOk_ins hok a b)
      generalize insAll [] (l.flatMap (perE l a b)) = E at *
      clear hok Hv Hn
      go_wp2_with fail
      refine HP.out.mono ?_
      rintro e w2 ⟨vd, D, rfl, hd, hown, hb2⟩
      obtain rfl : D = E := hd.one HD.out
      obtain ⟨ad, cd, rfl, -, -⟩ := own_shape hown
      have HRd := Lib.hid (RecAt.own (c := duCells) (sz := 3) (fun _ => rfl) hown)
      have Hb2 := Lib.hid hb2
      clear hd hown hb2 HD
      go_wp2_with fail
      refine (HR.out w2 Hb2.out).mono ?_
      rintro e w3 ⟨ve, rfl, hre, hb3⟩
      have HS := Lib.hid (rsameD_calls _ _ D D w3 (HRd.out.below hb3) hre)
      rw [decide_eq_true rfl] at HS
      obtain ⟨ae, ce, rfl, -, -⟩ := rec_shape hre
      have Hb3 := Lib.hid (Hb1.out.trans ((Hb2.out.trans (hb3.mono Hb2.out.size)).mono Hb1.out.size))
      clear hre hb3
      go_wp2_with fail
      refine HS.out.mono ?_
      rintro e w4 ⟨rfl, hb4⟩
      have Hb4 := Lib.hid (Hb3.out.trans (hb4.mono Hb3.out.size))
      clear hb4
      go_wp2_with fail
      refine (alive43_calls w4).mono ?_
      rintro e w9 ⟨rfl, hb9⟩
      have HE9 := Lib.hid (Hb4.out.trans (hb9.mono Hb4.out.size))
      clear hb9
      go_wp2
      go_ret
      exact ⟨rfl, HE9.out⟩

set_option maxRecDepth 100000 in
set_option maxHeartbeats 6400000 in
theorem once43_law (v : Value) (l : List Ev) (a b c : Int) (w : World) (h : EvsAt w v l) :
    Calls Try.prog 5 #[v, .agg #[.int .i64 a, .int .i64 b, .int .i64 c]] w fun e w' => e = .returned (.bool true) ∧ Below w.heap.size w w' := by
  have hh := h
  obtain ⟨av, cap, rfl, -, -⟩ := rec_shape h.1
  obtain ⟨W, hW⟩ : ∃ W, W = w.alloc (Obj.cells #[Value.int .i64 a, Value.int .i64 b, Value.int .i64 c] 35) := ⟨_, rfl⟩
  have hw0 : Below w.heap.size w W := by rw [hW]; exact (Below.refl _ _).alloc (Nat.le_refl _) _
  have rW : W.heap[w.heap.size]? = some (Obj.cells #[Value.int .i64 a, Value.int .i64 b, Value.int .i64 c] 35) := by rw [hW]; exact heap_alloc_new _ _
  have hzW : w.heap.size < W.heap.size := by rw [hW]; simp
  have m0 := cell_of_row W _ 0 _ _ _ rW
  have m1 := cell_of_row W _ 1 _ _ _ rW
  have m2 := cell_of_row W _ 2 _ _ _ rW
  have f0 := fun p : BelowOf W => BelowOf.cell (a := ⟨w.heap.size, 0, none⟩) hzW m0 p
  have f1 := fun p : BelowOf W => BelowOf.cell (a := ⟨w.heap.size, 1, none⟩) hzW m1 p
  have f2 := fun p : BelowOf W => BelowOf.cell (a := ⟨w.heap.size, 2, none⟩) hzW m2 p
  have HW := Lib.hid hW
  have Hw0 := Lib.hid hw0
  have HV := Lib.hid (fun Y (hY : Below w.heap.size w Y) => valid_to _ l Y (hh.below hY))
  have HH := Lib.hid hh
  clear hW rW m0 m1 m2 hh h hw0
  go_enter Try.func5, Try.ntmps5
  go_upto_region 1 with (fail)
  rw [← HW.out]
  refine wp_region_quiet_below (Below.refl W.heap.size W) (by kernel_rfl) (by kernel_rfl) ?_
  repeat (go_big_quiet_step (fail))
  refine wpQuiet_nil ?_
  intro wq hw'
  have hYq : Below W.heap.size W wq := by obtain ⟨pq, rfl⟩ := hw'; exact pq.h
  have hwq := Hw0.out.trans (hYq.mono Hw0.out.size)
  have Hwq := Lib.hid hwq
  have HV1 := Lib.hid (HV.out wq hwq)
  have HHq := Lib.hid (HH.out.below hwq)
  clear hw' f0 f1 f2 hYq hwq
  go_wp2_with fail
  refine HV1.out.mono ?_
  rintro e w1 ⟨⟨bv, rfl, hv⟩, hb1⟩
  have Hb1 := Lib.hid (Hwq.out.trans (hb1.mono Hwq.out.size))
  have Hv := Lib.hid hv
  have HH1 := Lib.hid (HHq.out.below hb1)
  clear hb1 hv
  cases bv with
  | false =>
    go_wp2_with fail
    refine (alive43_calls w1).mono ?_
    rintro e w2 ⟨rfl, hb2⟩
    have Hb2 := Lib.hid hb2
    clear hb2
    go_wp2
    go_ret
    exact ⟨rfl, Hb1.out.trans (Hb2.out.mono Hb1.out.size)⟩
  | true =>
    obtain ⟨hl, hok⟩ := Hv.out rfl
    go_wp2_with fail
    refine (near_calls a c w1).mono ?_
    rintro e w2 ⟨⟨nb, rfl, hn⟩, rfl⟩
    have Hn := Lib.hid hn
    clear hn
    cases nb with
    | false =>
      go_wp2_with fail
      refine (alive43_calls w1).mono ?_
      rintro e w2 ⟨rfl, hb2⟩
      have Hb2 := Lib.hid hb2
      clear hb2
      go_wp2
      go_ret
      exact ⟨rfl, Hb1.out.trans (Hb2.out.mono Hb1.out.size)⟩
    | true =>
      by_cases hab : b < a
      · go_wp2_with fail
        refine (alive43_calls w1).mono ?_
        rintro e w2 ⟨rfl, hb2⟩
        have Hb2 := Lib.hid hb2
        clear hb2
        go_wp2
        go_ret
        exact ⟨rfl, Hb1.out.trans (Hb2.out.mono Hb1.out.size)⟩
      by_cases hbc : c < b
      · go_wp2_with fail
        refine (alive43_calls w1).mono ?_
        rintro e w2 ⟨rfl, hb2⟩
        have Hb2 := Lib.hid hb2
        clear hb2
        go_wp2
        go_ret
        exact ⟨rfl, Hb1.out.trans (Hb2.out.mono Hb1.out.size)⟩
      have hac := Hn.out rfl
      have HP1 := Lib.hid (due_calls _ l a b w1 HH1.out hok (fun e he => perE_len hok (by omega) he) hl)
      have HP2 := Lib.hid (fun Y (hY : Below w1.heap.size w1 Y) => due_calls _ l b c Y (HH1.out.below hY) hok (fun e he => perE_len hok (by omega) he) hl)
      have HP3 := Lib.hid (fun Y (hY : Below w1.heap.size w1 Y) => due_calls _ l a c Y (HH1.out.below hY) hok (fun e he => perE_len hok (by omega) he) hl)
      have HL := Lib.hid (show ∀ x y D, y - x ≤ 69120000 → DueOk l x y D → D.length ≤ 1600 from fun x y D hn hD => by
        rw [hD.one (dueOk_ins hok x y), insAll_len]
        have := dues_len hok hn hl
        simpa using this)
      have HA := Lib.hid (fun D E (h : DueOk l a b D) (g : DueOk l b c E) => DueOk.append (show a ≤ b by omega) (show b ≤ c by omega) h g)
      clear hok Hv Hn
      go_wp2_with fail
      refine HP1.out.mono ?_
      rintro e w2 ⟨v2, D1, rfl, hd1, hown1, hb2⟩
      obtain ⟨a2, c2, rfl, -, -⟩ := own_shape hown1
      have hl1 := HL.out a b D1 (by omega) hd1
      have Hd1 := Lib.hid hd1
      have HO1 := Lib.hid hown1
      have Hb2 := Lib.hid hb2
      clear hd1 hown1 hb2 HP1
      go_wp2_with fail
      refine (HP2.out w2 Hb2.out).mono ?_
      rintro e w3 ⟨v3, D2, rfl, hd2, hown2, hb3⟩
      obtain ⟨a3, c3, rfl, -, -⟩ := own_shape hown2
      have hl2 := HL.out b c D2 (by omega) hd2
      have Hd2 := Lib.hid hd2
      have HO12 := Lib.hid (ownsRow_below HO1.out hb3)
      have HR2 := Lib.hid (RecAt.own (c := duCells) (sz := 3) (fun _ => rfl) hown2)
      have Hb3 := Lib.hid (Hb2.out.trans (hb3.mono Hb2.out.size))
      have hs3 : w1.heap.size ≤ w3.heap.size := Hb3.out.size
      clear hd2 hown2 hb3 HP2 HO1
      go_wp2_with (at_builtin; refine append_dus rfl _ _ rfl w1.heap.size hs3 _ _ D1 D2 rfl rfl HO12.out HR2.out (by omega) ?_)
      intro R hR v4 w4 own4 hb4
      have Own4 := Lib.hid own4
      have HRe := Lib.hid hR.out
      have Hb4 := Lib.hid (Hb3.out.trans hb4)
      obtain ⟨a4, c4, rfl, -, -⟩ := own_shape own4
      clear own4 hb4 hR
      go_wp2_with fail
      refine (HP3.out w4 Hb4.out).mono ?_
      rintro e w5 ⟨v5, D3, rfl, hd3, hown3, hb5⟩
      obtain ⟨a5, c5, rfl, -, -⟩ := own_shape hown3
      have HEq := Lib.hid (show R = D3 by rw [HRe.out]; exact (HA.out D1 D2 Hd1.out Hd2.out).one hd3)
      have HS := Lib.hid (rsameD_calls _ _ R D3 w5 ((RecAt.own (c := duCells) (sz := 3) (fun _ => rfl) Own4.out).below hb5) (RecAt.own (c := duCells) (sz := 3) (fun _ => rfl) hown3))
      rw [decide_eq_true HEq.out] at HS
      have Hb5 := Lib.hid (Hb1.out.trans ((Hb4.out.trans (hb5.mono Hb4.out.size)).mono Hb1.out.size))
      clear hd3 hown3 hb5
      go_wp2_with fail
      refine HS.out.mono ?_
      rintro e w6 ⟨rfl, hb6⟩
      have Hb6 := Lib.hid (Hb5.out.trans (hb6.mono Hb5.out.size))
      clear hb6
      go_wp2_with fail
      refine (alive43_calls w6).mono ?_
      rintro e w9 ⟨rfl, hb9⟩
      have HE9 := Lib.hid (Hb6.out.trans (hb9.mono Hb6.out.size))
      clear hb9
      go_wp2
      go_ret
      exact ⟨rfl, HE9.out⟩
end Go.Proofs.Ytmilpaibkemmdaa
