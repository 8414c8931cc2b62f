/-
  The walks of settlement's units; the totals that settlement gathers: a map from positions to numbers and units, as a list of pairs.
-/
import Derived.Test.YtohmdohbmmbbkaaDoorMgah
import Derived.Maps.OwnSet
import Derived.Maps.OwnOps
namespace Go.Proofs.YtohmdohbmmbbkaaDoor
open Go.RowKit Go.Maps Go.WideMaps

theorem sunits_calls (u : Us) (w : World) : Calls Tryd.prog 48 #[.agg u.row] w fun e w' => e = .returned (.int .i64 (unitsU u)) ∧ Below w.heap.size w w' := by
  have HV := Lib.hid (show unitsU u = if u.un < 0 ∨ 1099511627776 < u.un then 0 else u.un from rfl)
  have HB := Lib.hid (show ∀ o, Below w.heap.size w (w.alloc o) from fun o => (Below.refl _ _).alloc (Nat.le_refl _) o)
  unfold Us.row
  obtain ⟨id, kd, ac, sb, ua, ub, st, un, tr, ib, so, se⟩ := u
  dsimp only at HV ⊢
  by_cases h1 : un < 0
  · have HE := Lib.hid (HV.out.trans (if_pos (Or.inl h1)))
    rw [HE.out]
    go_enter Tryd.func48, Tryd.ntmps48
    go_wp2
    go_ret
    exact ⟨rfl, HB.out _⟩
  · by_cases h2 : 1099511627776 < un
    · have HE := Lib.hid (HV.out.trans (if_pos (Or.inr h2)))
      rw [HE.out]
      go_enter Tryd.func48, Tryd.ntmps48
      go_wp2
      go_ret
      exact ⟨rfl, HB.out _⟩
    · have HE := Lib.hid (HV.out.trans (if_neg (by omega)))
      rw [HE.out]
      go_enter Tryd.func48, Tryd.ntmps48
      go_wp2
      go_ret
      exact ⟨rfl, HB.out _⟩
theorem rsunits_calls (u : Us) (w : World) : Calls Tryd.prog 54 #[.agg u.row] w fun e w' => e = .returned (.int .i64 (unitsU u)) ∧ Below w.heap.size w w' := by
  have HV := Lib.hid (show unitsU u = if u.un < 0 ∨ 1099511627776 < u.un then 0 else u.un from rfl)
  have HB := Lib.hid (show ∀ o, Below w.heap.size w (w.alloc o) from fun o => (Below.refl _ _).alloc (Nat.le_refl _) o)
  unfold Us.row
  obtain ⟨id, kd, ac, sb, ua, ub, st, un, tr, ib, so, se⟩ := u
  dsimp only at HV ⊢
  by_cases h1 : un < 0
  · have HE := Lib.hid (HV.out.trans (if_pos (Or.inl h1)))
    rw [HE.out]
    go_enter Tryd.func54, Tryd.ntmps54
    go_wp2
    go_ret
    exact ⟨rfl, HB.out _⟩
  · by_cases h2 : 1099511627776 < un
    · have HE := Lib.hid (HV.out.trans (if_pos (Or.inr h2)))
      rw [HE.out]
      go_enter Tryd.func54, Tryd.ntmps54
      go_wp2
      go_ret
      exact ⟨rfl, HB.out _⟩
    · have HE := Lib.hid (HV.out.trans (if_neg (by omega)))
      rw [HE.out]
      go_enter Tryd.func54, Tryd.ntmps54
      go_wp2
      go_ret
      exact ⟨rfl, HB.out _⟩

theorem snocInd {α : Type} {p : List α → Prop} (h0 : p []) (h1 : ∀ l x, p l → p (l ++ [x])) (l : List α) : p l := by
  have h : ∀ r : List α, p r.reverse := by
    intro r
    induction r with
    | nil => exact h0
    | cons x r ih => rw [List.reverse_cons]; exact h1 _ _ ih
  have := h l.reverse
  rwa [List.reverse_reverse] at this
/-- What is stored: a position, a number, units. -/
abbrev Tt := Nat × Int × Int
def ttD (c u : Int) : DataW Unit := .agg [.lit (.int .i64 c), .lit (.int .i64 u)]
def readT (v : Value) : Option (DataW Unit × List MemPlace) :=
  match v with
  | .agg ⟨[.int .i64 c, .int .i64 u]⟩ => some (ttD c u, [])
  | _ => none
theorem readT_inv {v : Value} {c u : Int} {ps : List MemPlace} (h : readT v = some (ttD c u, ps)) : v = .agg #[.int .i64 c, .int .i64 u] := by
  unfold readT at h
  split at h
  · simp only [ttD, Option.some.injEq, Prod.mk.injEq, DataW.agg.injEq, List.cons.injEq, DataW.lit.injEq, Lit.int.injEq, true_and, and_true] at h
    obtain ⟨⟨rfl, rfl⟩, -⟩ := h
    rfl
  · cases h
def mapT (l : List Tt) : DataW Unit := l.foldl (fun m x => m.put (.int .i64 (x.1 : Int)) (ttD x.2.1 x.2.2)) (.map [])
def valT (l : List Tt) (k : Nat) : Int × Int := l.foldl (fun v x => if x.1 = k then x.2 else v) (0, 0)
def hasT (l : List Tt) (k : Nat) : Bool := l.any (fun x => decide (x.1 = k))
theorem mapT_snoc (l : List Tt) (x : Tt) : mapT (l ++ [x]) = (mapT l).put (.int .i64 (x.1 : Int)) (ttD x.2.1 x.2.2) := by simp [mapT, List.foldl_append]
theorem valT_snoc (l : List Tt) (x : Tt) (k : Nat) : valT (l ++ [x]) k = if x.1 = k then x.2 else valT l k := by simp [valT, List.foldl_append]
theorem hasT_snoc (l : List Tt) (x : Tt) (k : Nat) : hasT (l ++ [x]) k = (hasT l k || decide (x.1 = k)) := by simp [hasT]
theorem mapT_isMap (l : List Tt) : IsMap (mapT l) := by
  induction l using snocInd with
  | h0 => exact isMap_empty
  | h1 l x ih => rw [mapT_snoc]; exact ih.put _ _
theorem key_neT {a b : Nat} (h : ¬ a = b) : Lit.int .i64 (b : Int) ≠ Lit.int .i64 (a : Int) := fun e => h (by
  have := ((Lit.int.injEq _ _ _ _).mp e).2
  omega)
theorem mapT_has (l : List Tt) (k : Nat) : Maps.has (mapT l) (.int .i64 (k : Int)) = hasT l k := by
  induction l using snocInd with
  | h0 => rfl
  | h1 l x ih =>
    rw [mapT_snoc, hasT_snoc]
    by_cases h : x.1 = k
    · subst h
      rw [has_put_same (mapT_isMap l) (by trivial)]
      simp
    · rw [has_put_other (key_neT h), ih]
      simp [h]
theorem mapT_at (l : List Tt) (k : Nat) : (mapT l).atKey (.int .i64 (k : Int)) (ttD 0 0) = ttD (valT l k).1 (valT l k).2 := by
  induction l using snocInd with
  | h0 => rfl
  | h1 l x ih =>
    rw [mapT_snoc, valT_snoc]
    by_cases h : x.1 = k
    · subst h
      rw [atKey_put_same (mapT_isMap l) (by trivial), if_pos rfl]
    · rw [atKey_put_other (key_neT h), ih, if_neg h]
theorem lawI : Keyed Tryd.prog 3 := int_keyed Tryd.underlying3
theorem zeroT (w : World) : (zeroValue 67).run Tryd.prog w = .ok (.agg #[.int .i64 0, .int .i64 0]) w := by kernel_rfl
/-- A block is a map of totals. -/
def OwnT (w : World) (b : Nat) (l : List Tt) : Prop := w.ownsMap Tryd.prog 3 readT b l.length (mapT l)
theorem OwnT.made (w : World) : OwnT (w.alloc (.map #[] 0)) w.heap.size [] := World.ownsMap_made _ _ _ _
theorem OwnT.below {w w' : World} {b : Nat} {l : List Tt} (h : OwnT w b l) (hb : Below w.heap.size w w') : OwnT w' b l := by
  obtain ⟨es, clock, hh, r⟩ := h
  exact ⟨es, clock, (hb.block b (Array.getElem?_eq_some_iff.1 hh).1).trans hh, r⟩
theorem key_wf {k : Nat} (h : k ≤ 9223372036854775807) : (Lit.int .i64 (k : Int)).wf = true := by
  simp [Lit.wf, IntKind.min, IntKind.max, IntKind.signed, IntKind.bits]
  omega
theorem look_tot {w : World} {b : Nat} {l : List Tt} (h : OwnT w b l) (k : Nat) (hk : k ≤ 9223372036854775807) : (Instr.lookup 64 (.map (some b)) (.int .i64 (k : Int)) false).run Tryd.prog w = .ok (.agg #[.int .i64 (valT l k).1, .int .i64 (valT l k).2]) w := by
  obtain ⟨v, ps, hrun, hv⟩ := World.ownsMap.lookup h lawI Tryd.underlying64 (zeroT w) (zd := ttD 0 0) (zp := []) rfl (keyOf_int_mk Tryd.underlying3 (key_wf hk))
  rw [mapT_at] at hv
  rw [hrun, readT_inv hv]
theorem look_tot_ok {w : World} {b : Nat} {l : List Tt} (h : OwnT w b l) (k : Nat) (hk : k ≤ 9223372036854775807) : (Instr.lookup 64 (.map (some b)) (.int .i64 (k : Int)) true).run Tryd.prog w = .ok (.tuple #[.agg #[.int .i64 (valT l k).1, .int .i64 (valT l k).2], .bool (hasT l k)]) w := by
  obtain ⟨v, ps, hrun, hv⟩ := World.ownsMap.look_ok h lawI Tryd.underlying64 (zeroT w) (zd := ttD 0 0) (zp := []) rfl (keyOf_int_mk Tryd.underlying3 (key_wf hk))
  rw [mapT_at] at hv
  rw [hrun, readT_inv hv, mapT_has]
theorem wpList_mapUpdate_tot {ops : Array Oper} {rest : List Oper} {o : Oper} {a : Act} {Q : Exit → Act → World → Prop} (w : World)
    (hg : o.guard = none) (m x v : Operand) (hop : o.op = Op.mapUpdate 64 m x v) (b : Nat) (l : List Tt)
    (hm : a.eval m = .map (some b)) (hown : OwnT w b l) (hn : l.length < maxLen) (k : Nat) (c u : Int) (hx : a.eval x = .int .i64 (k : Int)) (hv : a.eval v = .agg #[.int .i64 c, .int .i64 u]) (hk : k ≤ 9223372036854775807)
    (hK : ∀ w', OwnT w' b (l ++ [(k, c, u)]) → w.grownBy w' (some b) → wpList Tryd.prog ops Q rest (a.put o.dst undef) w') :
    wpList Tryd.prog ops Q (o :: rest) a w :=
  wpList_mapUpdate_own w hg m x v 64 hop 3 67 lawI Tryd.underlying64 _ b l.length (mapT l) hm hown hn (.int .i64 (k : Int)) (.agg #[.int .i64 c, .int .i64 u]) (.int .i64 (k : Int)) hx hv (keyOf_int_mk Tryd.underlying3 (key_wf hk)) (ttD c u) [] rfl (fun w' h1 h2 => hK w' (by
    unfold OwnT
    rw [mapT_snoc, List.length_append]
    exact h1) h2)
end Go.Proofs.YtohmdohbmmbbkaaDoor
