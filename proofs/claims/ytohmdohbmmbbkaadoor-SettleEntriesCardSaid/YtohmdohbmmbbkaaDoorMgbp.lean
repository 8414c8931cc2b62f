/-
  The plain law of the order of a partner's agreements: sorted, they are one list.
  What settle.Statement returns, in plain Lean.
  The walks of the reference's order of charges and of its Count.
  The walk of the reference's order of a partner's agreements.
-/
import Derived.Test.YtohmdohbmmbbkaaDoorMgbo
import Derived.Test.YtohmdohbmmbbkaaDoorMgbl
import Derived.Test.YtohmdohbmmbbkaaDoorMgbm
import Derived.Test.YtohmdohbmmbbkaaDoorMgaf
import Derived.Test.YtohmdohbmmbbkaaDoorMgaw
import Derived.Test.YtohmdohbmmbbkaaDoorMgaq
import Derived.Test.YtohmdohbmmbbkaaDoorMgbb
import Derived.Test.YtohmdohbmmbbkaaDoorMgai
import Derived.Test.YtohmdohbmmbbkaaDoorMgag
import Derived.Deep.LoopGhost
import Derived.Deep.DeepCutAuto
import Derived.WalkMore
import Derived.Laws.AppendOwnNone
namespace Go.Proofs.YtohmdohbmmbbkaaDoor
open Go.RowKit

theorem rk_inj {a b : Bool} (h : rk a = rk b) : a = b := by cases a <;> cases b <;> first | rfl | (exact absurd h (by decide))
theorem befLt_trich {a b : Ag} (h : ¬ (a.kd = b.kd ∧ a.ib = b.ib ∧ a.fr = b.fr)) : befLt a b ∨ befLt b a := by
  unfold befLt
  by_cases h1 : a.kd = b.kd
  · by_cases h2 : rk a.ib = rk b.ib
    · have h3 : a.fr ≠ b.fr := fun e => h ⟨h1, rk_inj h2, e⟩
      omega
    · omega
  · omega
theorem fault_valid {a : Ag} (h : faultE a = 0) : a.fr < a.tt ∧ validB a.fr a.tt = true := by
  unfold faultE at h
  by_cases h1 : a.pa < 1 ∨ 999 < a.pa
  · rw [if_pos h1] at h; cases h
  · rw [if_neg h1] at h
    by_cases h2 : a.kd < 1 ∨ 5 ≤ a.kd
    · rw [if_pos h2] at h; cases h
    · rw [if_neg h2] at h
      by_cases h3 : validB a.fr a.tt = false
      · rw [if_pos h3] at h; cases h
      · have h4 : validB a.fr a.tt = true := by simpa using h3
        exact ⟨((validB_iff _ _).1 h4).2.1, h4⟩
theorem agsE_of {l : List Ag} (h : agCheckE l = 0) : agsE [] l = 0 := by
  unfold agCheckE at h
  by_cases h1 : 4096 < l.length
  · rw [if_pos h1] at h; cases h
  · rwa [if_neg h1] at h
/-- A valid list's agreements with one partner have keys of their own. -/
theorem keys_pair {l : List Ag} (h : agCheckE l = 0) : l.Pairwise fun a b => a.pa = b.pa → befLt a b ∨ befLt b a := by
  have h0 := agsE_of h
  rw [List.pairwise_iff_getElem]
  intro i j hi hj hij hpa
  refine befLt_trich fun ⟨e1, e2, e3⟩ => ?_
  have hfi := (agsE_zero l [] h0 i hi).1
  have hfj := (agsE_zero l [] h0 j hj).1
  have hm := (agsE_zero l [] h0 j hj).2
  rw [List.nil_append, List.any_eq_false] at hm
  obtain ⟨vi, wi⟩ := fault_valid hfi
  obtain ⟨vj, wj⟩ := fault_valid hfj
  refine hm l[i] ?_ (meets_yes ((meetB_iff _ _ _ _).2 ⟨wj, wi, by omega⟩) hpa.symm e1.symm e2.symm)
  rw [List.mem_take_iff_getElem]
  exact ⟨i, by omega, rfl⟩
theorem befLt_asym {a b : Ag} (h1 : befLt a b) (h2 : befLt b a) : False := by unfold befLt at h1 h2; omega
/-- Two sorted lists of the same agreements with keys of their own are one. -/
theorem sorted_one {p q : List Ag} (hp : p.Perm q) (hk : q.Pairwise fun a b => befLt a b ∨ befLt b a) (h1 : p.Pairwise fun a b => ¬ befLt b a) (h2 : q.Pairwise fun a b => ¬ befLt b a) : p = q := by
  have hk1 := (hp.pairwise_iff (fun h => h.symm)).2 hk
  have s1 : p.Pairwise befLt := (hk1.and h1).imp fun h => h.1.resolve_right h.2
  have s2 : q.Pairwise befLt := (hk.and h2).imp fun h => h.1.resolve_right h.2
  exact hp.eq_of_pairwise (le := befLt) (fun a b _ _ x y => (befLt_asym x y).elim) s1 s2
/-- Where the reference puts an agreement in. -/
def kO (x : Ag) (l : List Ag) : Nat → Nat
  | 0 => 0
  | n + 1 => if (l[n]?.any fun y => decide (befLt x y)) = true then kO x l n else n + 1
theorem kO_le (x : Ag) (l : List Ag) : ∀ n, kO x l n ≤ n
  | 0 => Nat.le_refl _
  | n + 1 => by
    rw [kO]
    split
    · exact Nat.le_succ_of_le (kO_le x l n)
    · exact Nat.le_refl _
theorem kO_after (x : Ag) (l : List Ag) : ∀ n, ∀ j (hj : j < l.length), kO x l n ≤ j → j < n → befLt x l[j]
  | 0, j, _, _, h => by omega
  | n + 1, j, hj, h1, h2 => by
    rw [kO] at h1
    split at h1
    · rename_i h
      by_cases e : j = n
      · subst e
        rw [List.getElem?_eq_getElem hj] at h
        simpa using h
      · exact kO_after x l n j hj h1 (by omega)
    · omega
theorem kO_before (x : Ag) (l : List Ag) : ∀ n, n ≤ l.length → ∀ k (hk : k < l.length), kO x l n = k + 1 → ¬ befLt x l[k]
  | 0, _, k, _, h => by rw [kO] at h; omega
  | n + 1, hn, k, hk, h => by
    rw [kO] at h
    split at h
    · exact kO_before x l n (by omega) k hk h
    · rename_i h2
      obtain rfl : n = k := by omega
      rw [List.getElem?_eq_getElem hk] at h2
      simpa using h2
def insO (x : Ag) (l : List Ag) : List Ag := l.take (kO x l l.length) ++ x :: l.drop (kO x l l.length)
theorem insO_perm (x : Ag) (l : List Ag) : (insO x l).Perm (x :: l) := by
  unfold insO
  refine List.perm_middle.trans ?_
  rw [List.take_append_drop]
def Srt (l : List Ag) : Prop := l.Pairwise fun a b => ¬ befLt b a
theorem insO_sorted {x : Ag} {l : List Ag} (h : Srt l) : Srt (insO x l) := by
  unfold insO Srt at *
  have hk := kO_le x l l.length
  have ha := kO_after x l l.length
  have hb := kO_before x l l.length (Nat.le_refl _)
  generalize kO x l l.length = k at *
  have hpw := List.pairwise_iff_getElem.1 h
  refine List.pairwise_append.2 ⟨h.sublist (List.take_sublist _ _), List.pairwise_cons.2 ⟨?_, h.sublist (List.drop_sublist _ _)⟩, ?_⟩
  · intro y hy
    obtain ⟨i, hi, rfl⟩ := List.mem_iff_getElem.1 hy
    rw [List.length_drop] at hi
    rw [List.getElem_drop]
    exact fun hn => befLt_asym hn (ha (k + i) (by omega) (by omega) (by omega))
  · intro a hma b hmb
    obtain ⟨i, hi, rfl⟩ := List.mem_iff_getElem.1 hma
    rw [List.length_take] at hi
    rw [List.getElem_take]
    rcases List.mem_cons.1 hmb with rfl | hmb
    · intro hn
      match k, hk, hi, hb with
      | k + 1, hk, hi, hb =>
        have h1 := hb k (by omega) rfl
        by_cases e : i = k
        · subst e; exact h1 hn
        · have h2 := hpw i k (by omega) (by omega) (by omega)
          unfold befLt at *
          omega
    · obtain ⟨j, hj, rfl⟩ := List.mem_iff_getElem.1 hmb
      rw [List.length_drop] at hj
      rw [List.getElem_drop]
      exact hpw i (k + j) (by omega) (by omega) (by omega)
def oursL (pa : Int) (l : List Ag) : List Ag := l.foldl (fun o a => if a.pa = pa then insO a o else o) []
theorem oursL_snoc (pa : Int) (l : List Ag) (a : Ag) : oursL pa (l ++ [a]) = if a.pa = pa then insO a (oursL pa l) else oursL pa l := by simp [oursL, List.foldl_append]
theorem oursL_ok (pa : Int) (l : List Ag) : (oursL pa l).Perm (l.filter fun a => decide (a.pa = pa)) ∧ Srt (oursL pa l) := by
  induction l using snocInd with
  | h0 => exact ⟨List.Perm.refl _, List.Pairwise.nil⟩
  | h1 l a ih =>
    rw [oursL_snoc, List.filter_append]
    by_cases h : a.pa = pa
    · rw [if_pos h, List.filter_cons_of_pos (by simpa using h), List.filter_nil]
      refine ⟨(insO_perm _ _).trans (((List.Perm.cons a ih.1)).trans (List.perm_append_comm (l₁ := [a]))), insO_sorted ih.2⟩
    · rw [if_neg h, List.filter_cons_of_neg (by simpa using h), List.filter_nil, List.append_nil]
      exact ih
/-- The program's order, cut down to a partner, is the reference's. -/
theorem ours_eq {l so : List Ag} (pa : Int) (h : agCheckE l = 0) (hp : so.Perm l) (hs : Srt so) : so.filter (fun a => decide (a.pa = pa)) = oursL pa l := by
  obtain ⟨h1, h2⟩ := oursL_ok pa l
  have hq : (so.filter fun a => decide (a.pa = pa)).Perm (oursL pa l) := (hp.filter _).trans h1.symm
  refine sorted_one hq ?_ (hs.sublist List.filter_sublist) h2
  refine (h1.pairwise_iff (fun h => h.symm)).2 ?_
  have hk := (keys_pair h).sublist (List.filter_sublist (p := fun a => decide (a.pa = pa)))
  refine List.Pairwise.imp_of_mem (fun {a b} ha hb hab => hab ?_) hk
  have e1 := (List.mem_filter.1 ha).2
  have e2 := (List.mem_filter.1 hb).2
  exact (of_decide_eq_true e1).trans (of_decide_eq_true e2).symm
end Go.Proofs.YtohmdohbmmbbkaaDoor

namespace Go.Proofs.YtohmdohbmmbbkaaDoor
open Go.RowKit

theorem Tryd.chInfo : (Tryd.prog.info? 49).map (fun i => (i.zero, i.size, i.bytes)) = some (some (.agg #[.int .i64 0, .bool false, .int .i64 0, .int .i64 0, .int .i64 0]), 5, 40) := by kernel_rfl
/-- A statement. -/
structure Stm where
  pa : Int
  mf : Int
  mt : Int
  cs : List Chg
  net : Int
def stm0 : Stm := ⟨0, 0, 0, [], 0⟩
def chCells (c : Chg) : List Value := [.int .i64 c.kd, .bool c.ib, .int .i64 c.cn, .int .i64 c.un, .int .i64 c.am]
/-- The settlement over agreements in their order. -/
def stmL (pa mf mt : Int) (r : Int × List Chg × Int) : Int × Stm :=
  if r.1 ≠ 0 then (r.1, stm0) else if amB r.2.2 = true then (0, ⟨pa, mf, mt, r.2.1, r.2.2⟩) else (6, stm0)
def stmE (l : List Ag) (us : List Us) (pa mf mt : Int) : Int × Stm :=
  if agCheckE l ≠ 0 then (agCheckE l, stm0) else if pa < 1 then (6, stm0) else if 999 < pa then (6, stm0) else if validB mf mt = false then (8, stm0)
  else stmL pa mf mt (stL (cntU pa mf mt us) (oursL pa l) [] 0)
theorem stm_so {l so : List Ag} {us : List Us} {pa mf mt : Int} (h : agCheckE l = 0) (hp : so.Perm l) (hs : Srt so) : stL (cntU pa mf mt us) so [] 0 = stL (cntU pa mf mt us) (oursL pa l) [] 0 := by
  rw [← ours_eq pa h hp hs]
  exact stL_filter (fun a ha => cntU_other us ha) _ _ _
/-- What Statement returns: the charges lie in a row of its own. -/
def StTo (r : Int × Stm) (w : World) (e : Ending) (w' : World) : Prop :=
  ∃ vc, e = .returned (.tuple #[.agg #[.int .i64 r.2.pa, .int .i64 r.2.mf, .int .i64 r.2.mt, vc, .int .i64 r.2.net], .int .i64 r.1]) ∧ w'.ownsRow w.heap.size 49 5 vc r.2.cs.length (r.2.cs.flatMap chCells) ∧ Below w.heap.size w w'
theorem below_set5 {B g : Nat} {a w : World} (h : Below B a w) (hg : B ≤ g) (v0 v1 v2 v3 v4 : Value) : Below B a (((((w.setCell ⟨g, 0, none⟩ v0).setCell ⟨g, 1, none⟩ v1).setCell ⟨g, 2, none⟩ v2).setCell ⟨g, 3, none⟩ v3).setCell ⟨g, 4, none⟩ v4) :=
  ((((h.setCell hg v0).setCell hg v1).setCell hg v2).setCell hg v3).setCell hg v4
/-- The five cells of a row of its own: they read, and may be written. -/
def Box5 (w : World) (g : Nat) (v0 v1 v2 v3 v4 : Value) (t : TypeId) : Prop := w.heap[g]? = some (Obj.cells #[v0, v1, v2, v3, v4] t)
theorem Box5.cells {w : World} {g : Nat} {v0 v1 v2 v3 v4 : Value} {t : TypeId} (h : Box5 w g v0 v1 v2 v3 v4 t) : w.cell? ⟨g, 0, none⟩ = some v0 ∧ w.cell? ⟨g, 1, none⟩ = some v1 ∧ w.cell? ⟨g, 2, none⟩ = some v2 ∧ w.cell? ⟨g, 3, none⟩ = some v3 ∧ w.cell? ⟨g, 4, none⟩ = some v4 ∧
    w.frozen? ⟨g, 0, none⟩ = false ∧ w.frozen? ⟨g, 1, none⟩ = false ∧ w.frozen? ⟨g, 2, none⟩ = false ∧ w.frozen? ⟨g, 3, none⟩ = false ∧ w.frozen? ⟨g, 4, none⟩ = false := by
  unfold Box5 at h
  exact ⟨cell_of_row w _ 0 _ _ _ h, cell_of_row w _ 1 _ _ _ h, cell_of_row w _ 2 _ _ _ h, cell_of_row w _ 3 _ _ _ h, cell_of_row w _ 4 _ _ _ h, by simp [World.frozen?, h], by simp [World.frozen?, h], by simp [World.frozen?, h], by simp [World.frozen?, h], by simp [World.frozen?, h]⟩
/-- What the price of a charge is. -/
theorem price_charge {a : Ag} {n : Int} (h : (agPriceL a 0 n).2 = 0) : 0 ≤ (agPriceL a 0 n).1 ∧ (agPriceL a 0 n).1 ≤ 1125899906842624 := by
  have ho := ag_ok h
  have := ho.price (m := 0) (p := n) (Int.le_refl _) ho.n0 (by omega)
  rw [this, Int.zero_add, ho.zero]
  have := ho.bd ho.n0 (Int.le_refl _)
  exact ⟨by simp only; omega, by simp only; omega⟩
end Go.Proofs.YtohmdohbmmbbkaaDoor

namespace Go.Proofs.YtohmdohbmmbbkaaDoor
open Go.RowKit

theorem befLt_iff (x y : Ag) : decide (befLt x y) = if x.kd = y.kd then (if x.ib = y.ib then decide (x.fr < y.fr) else y.ib) else decide (x.kd < y.kd) := by
  obtain ⟨xp, xk, xi, xf, xt, xs, xc⟩ := x
  obtain ⟨yp, yk, yi, yf, yt, ys, yc⟩ := y
  unfold befLt
  by_cases h1 : xk = yk
  · subst h1
    cases xi <;> cases yi <;> simp [rk]
  · simp only [h1, false_and, or_false, if_false]

set_option maxRecDepth 100000 in
set_option maxHeartbeats 3200000 in
theorem rbefore_calls (x y : Ag) (xa ya : Option Addr) (xn xc yn yc : Nat) (w : World) : Calls Tryd.prog 51 #[agVal x (.slice xa xn xc), agVal y (.slice ya yn yc)] w fun e w' => e = .returned (.bool (decide (befLt x y))) ∧ Below w.heap.size w w' := by
  have HV := Lib.hid (befLt_iff x y)
  have HB := Lib.hid (show ∀ o p, Below w.heap.size w ((w.alloc o).alloc p) from fun o p => ((Below.refl _ _).alloc (Nat.le_refl _) o).alloc (by simp) p)
  unfold agVal
  obtain ⟨xp, xk, xi, xf, xt, xs, xcp⟩ := x
  obtain ⟨yp, yk, yi, yf, yt, ys, ycp⟩ := y
  dsimp only at HV ⊢
  by_cases h1 : xk = yk
  · have h1b : (xk != yk) = false := bne_eq_false_iff_eq.2 h1
    cases xi <;> cases yi
    all_goals
      have HE := Lib.hid (HV.out.trans (if_pos h1))
      simp only [if_true, if_false, reduceCtorEq] at HE
      rw [HE.out]
      clear h1 HV HE
      go_enter Tryd.func51, Tryd.ntmps51
      go_wp2
      go_ret
      exact ⟨rfl, HB.out _ _⟩
  · have h1b : (xk != yk) = true := bne_iff_ne.2 h1
    have HE := Lib.hid (HV.out.trans (if_neg h1))
    rw [HE.out]
    clear h1 HV HE
    go_enter Tryd.func51, Tryd.ntmps51
    go_wp2
    go_ret
    exact ⟨rfl, HB.out _ _⟩

/-- Does a usage count? -/
def hitU (pa kd : Int) (ib : Bool) (f t : Int) (u : Us) : Bool := (u.tr == pa) && (u.kd == kd) && (u.ib == ib) && containsB f t u.st
def cntR (pa kd : Int) (ib : Bool) (f t : Int) (us : List Us) : Int × Int := us.foldl (fun s u => if hitU pa kd ib f t u = true then (s.1 + 1, s.2 + unitsU u) else s) (0, 0)
theorem cntR_snoc (pa kd : Int) (ib : Bool) (f t : Int) (us : List Us) (k : Nat) (h : k < us.length) : cntR pa kd ib f t (us.take (k + 1)) = if hitU pa kd ib f t us[k] = true then ((cntR pa kd ib f t (us.take k)).1 + 1, (cntR pa kd ib f t (us.take k)).2 + unitsU us[k]) else cntR pa kd ib f t (us.take k) := by
  unfold cntR
  rw [List.take_succ_eq_append_getElem h, List.foldl_append]
  rfl
theorem cntR_bd (pa kd : Int) (ib : Bool) (f t : Int) (us : List Us) : ∀ k, k ≤ us.length → 0 ≤ (cntR pa kd ib f t (us.take k)).1 ∧ (cntR pa kd ib f t (us.take k)).1 ≤ (k : Int) ∧ 0 ≤ (cntR pa kd ib f t (us.take k)).2 ∧ (cntR pa kd ib f t (us.take k)).2 ≤ 1099511627776 * (k : Int)
  | 0, _ => by simp [cntR]
  | k + 1, hk => by
    have ih := cntR_bd pa kd ib f t us k (by omega)
    have hu := unitsU_bd us[k]
    rw [cntR_snoc _ _ _ _ _ _ _ (by omega)]
    split
    · simp only; omega
    · omega
/-- What Count returns. -/
def CntTo (r : Int × Int) (w : World) (e : Ending) (w' : World) : Prop := e = .returned (.tuple #[.int .i64 r.1, .int .i64 r.2]) ∧ Below w.heap.size w w'

set_option maxRecDepth 100000 in
set_option maxHeartbeats 6400000 in
theorem rcount_calls (vu : Value) (us : List Us) (pa kd : Int) (ib : Bool) (f t : Int) (w : World) (hu : UssAt w vu us) (hl : us.length ≤ 40) :
    Calls Tryd.prog 32 #[vu, .int .i64 pa, .int .i64 kd, .bool ib, .agg #[.int .i64 f, .int .i64 t]] w (CntTo (cntR pa kd ib f t us) w) := by
  obtain ⟨W, hW⟩ : ∃ W, W = w.alloc (Obj.cells #[Value.int .i64 f, .int .i64 t] 25) := ⟨_, rfl⟩
  have hw0 : Below w.heap.size w W := by rw [hW]; exact (Below.refl _ _).alloc (Nat.le_refl _) _
  have r0 : W.heap[w.heap.size]? = some (Obj.cells #[Value.int .i64 f, .int .i64 t] 25) := by rw [hW]; exact heap_alloc_new _ _
  have hzW : W.heap.size = w.heap.size + 1 := by rw [hW]; simp
  have HM := Lib.hid (show ∀ w', Below W.heap.size W w' → w'.cell? ⟨w.heap.size, 0, none⟩ = some (.int .i64 f) ∧ w'.cell? ⟨w.heap.size, 1, none⟩ = some (.int .i64 t) from fun w' hb => by
    have g0 := (hb.block _ (by omega)).trans r0
    exact ⟨cell_of_row w' _ 0 _ _ _ g0, cell_of_row w' _ 1 _ _ _ g0⟩)
  have Hu := Lib.hid (hu.below hw0)
  obtain ⟨ua0, uc, rfl, hul, hum, -⟩ := hu
  have hum := hum.1
  unfold maxLen at hum
  have HW := Lib.hid hW
  have Hw0 := Lib.hid hw0
  have HzW := Lib.hid hzW
  have HBd := Lib.hid (cntR_bd pa kd ib f t us)
  have HSn := Lib.hid (cntR_snoc pa kd ib f t us)
  clear hW hw0 r0
  go_enter Tryd.func32, Tryd.ntmps32
  go_upto_region 1 with (fail)
  rw [← HW.out]
  go_wp2_with fail
  go_loopg [12, 13, 14] us.length (fun g c s i wx => ∃ k : Nat, k + g = us.length ∧ i = .int .i64 k ∧ c = .int .i64 (cntR pa kd ib f t (us.take k)).1 ∧ s = .int .i64 (cntR pa kd ib f t (us.take k)).2 ∧ Below W.heap.size W wx)
  case atStart => exact ⟨0, by omega, rfl, rfl, rfl, Below.refl _ _⟩
  case round =>
    obtain ⟨k, hkg, rfl, rfl, rfl, hbr⟩ := hrel
    have Hbr := Lib.hid hbr
    cases gk with
    | zero =>
      have hkz : ¬ ((k : Int) < (us.length : Int)) := by omega
      have HE := Lib.hid (show cntR pa kd ib f t (us.take k) = cntR pa kd ib f t us by rw [List.take_of_length_le (by omega)])
      rw [HE.out]
      clear hkg hbr
      go_wp2
      go_ret2
      exact ⟨rfl, Hw0.out.trans (Hbr.out.mono Hw0.out.size)⟩
    | succ gk =>
      have hlt : k < us.length := by omega
      have hk1 : (k : Int) < (us.length : Int) := by omega
      have hk0 : (0 : Int) ≤ (k : Int) := Int.natCast_nonneg _
      obtain ⟨ua2, uc2, e2, -, -, hx⟩ := Hu.out
      cases e2
      obtain ⟨bu, ou, rfl, hBu, hx⟩ := hx (by rintro rfl; cases hlt)
      have c := fun j (hj : j < 12) => (hbr.cell (p := ⟨bu, _, none⟩) hBu).trans (hx k hlt j hj)
      have HSk := Lib.hid (HSn.out k hlt)
      obtain ⟨hb1, hb2, hb3, hb4⟩ := HBd.out k (by omega)
      clear hx
      generalize us[k] = u at *
      have hub := unitsU_bd u
      have HUn := Lib.hid (fun w' => rsunits_calls u w')
      obtain ⟨id, kx, ac, sb, ua, ub, st, un, tr, ix, so0, se⟩ := u
      unfold Us.row at c HUn
      dsimp only at c HUn
      have HHit := Lib.hid (show hitU pa kd ib f t ⟨id, kx, ac, sb, ua, ub, st, un, tr, ix, so0, se⟩ = ((tr == pa) && (kx == kd) && (ix == ib) && containsB f t st) from rfl)
      have c0 := c 0 (by omega)
      have c1 := c 1 (by omega)
      have c2 := c 2 (by omega)
      have c3 := c 3 (by omega)
      have c4 := c 4 (by omega)
      have c5 := c 5 (by omega)
      have c6 := c 6 (by omega)
      have c7 := c 7 (by omega)
      have c8 := c 8 (by omega)
      have c9 := c 9 (by omega)
      have c10 := c 10 (by omega)
      have c11 := c 11 (by omega)
      have c0 : wr.cell? ⟨bu, ou + k * 12, none⟩ = some (.int .i64 id) := c0
      clear c
      obtain ⟨X, hX⟩ : ∃ X, X = wr.alloc (Obj.cells #[Value.int .i64 id, .int .i64 kx, .int .i64 ac, .int .i64 sb, .string ua, .string ub, .int .i64 st, .int .i64 un, .int .i64 tr, .bool ix, .int .i64 so0, .int .i64 se] 47) := ⟨_, rfl⟩
      have hbX : Below wr.heap.size wr X := by rw [hX]; exact (Below.refl _ _).alloc (Nat.le_refl _) _
      have rX : X.heap[wr.heap.size]? = some (Obj.cells #[Value.int .i64 id, .int .i64 kx, .int .i64 ac, .int .i64 sb, .string ua, .string ub, .int .i64 st, .int .i64 un, .int .i64 tr, .bool ix, .int .i64 so0, .int .i64 se] 47) := by rw [hX]; exact heap_alloc_new _ _
      have hzX : wr.heap.size < X.heap.size := by rw [hX]; simp
      have hwX := hbr.trans (hbX.mono hbr.size)
      have hwzX : w.heap.size < X.heap.size := by have := hbr.size; omega
      obtain ⟨m0, m1⟩ := HM.out X hwX
      have x1 := cell_of_row X _ 1 _ _ _ rX
      have x6 := cell_of_row X _ 6 _ _ _ rX
      have x8 := cell_of_row X _ 8 _ _ _ rX
      have x9 := cell_of_row X _ 9 _ _ _ rX
      obtain ⟨cn, hcn⟩ : ∃ cn, cn = containsB f t st := ⟨_, rfl⟩
      rw [← hcn] at HHit
      have HCn := Lib.hid (show ∀ w', Calls Tryd.prog 53 #[.agg #[.int .i64 f, .int .i64 t], .int .i64 st] w' fun e w'' => e = .returned (.bool cn) ∧ Below w'.heap.size w' w'' from fun w' => hcn ▸ rcontains_calls f t st w')
      have HX := Lib.hid hX
      have HrX := Lib.hid rX
      have HwX := Lib.hid hwX
      clear hX rX hwX hcn hwzX hzW
      go_upto_region 6 with (fail)
      rw [← HX.out]
      clear c0 c1 c2 c3 c4 c5 c6 c7 c8 c9 c10 c11
      generalize unitsU ⟨id, kx, ac, sb, ua, ub, st, un, tr, ix, so0, se⟩ = uv at *
      cases h1b : (tr == pa) with
      | false =>
        have HE := Lib.hid (HSk.out.trans (if_neg (by rw [HHit.out, h1b]; simp)))
        go_wp2
        go_roundg gk
        case measure => omega
        case rel => exact ⟨k + 1, by omega, by first | rfl | simp, by rw [HE.out], by rw [HE.out], HwX.out⟩
      | true =>
        cases h2b : (kx == kd) with
        | false =>
          have HE := Lib.hid (HSk.out.trans (if_neg (by rw [HHit.out, h2b]; simp)))
          go_wp2
          go_roundg gk
          case measure => omega
          case rel => exact ⟨k + 1, by omega, by first | rfl | simp, by rw [HE.out], by rw [HE.out], HwX.out⟩
        | true =>
          cases h3b : (ix == ib) with
          | false =>
            have HE := Lib.hid (HSk.out.trans (if_neg (by rw [HHit.out, h3b]; simp)))
            go_wp2
            go_roundg gk
            case measure => omega
            case rel => exact ⟨k + 1, by omega, by first | rfl | simp, by rw [HE.out], by rw [HE.out], HwX.out⟩
          | true =>
            cases cn with
            | false =>
              have HE := Lib.hid (HSk.out.trans (if_neg (by rw [HHit.out]; simp)))
              go_wp2_with fail
              refine (HCn.out X).mono ?_
              rintro e wa ⟨rfl, hYa⟩
              have HYa := Lib.hid hYa
              have HwA := Lib.hid (HwX.out.trans (hYa.mono HwX.out.size))
              clear x1 x6 x8 x9 m0 m1 hYa
              go_wp2
              go_roundg gk
              case measure => omega
              case rel => exact ⟨k + 1, by omega, by first | rfl | simp, by rw [HE.out], by rw [HE.out], HwA.out⟩
            | true =>
              have HE := Lib.hid (HSk.out.trans (if_pos (by rw [HHit.out, h1b, h2b, h3b]; rfl)))
              go_wp2_with fail
              refine (HCn.out X).mono ?_
              rintro e wa ⟨rfl, hYa⟩
              have HYa := Lib.hid hYa
              have HwA := Lib.hid (HwX.out.trans (hYa.mono HwX.out.size))
              clear x1 x6 x8 x9 m0 m1 hYa
              generalize cntR pa kd ib f t (us.take k) = cc at *
              obtain ⟨cc, cv⟩ := cc
              dsimp only at hb1 hb2 hb3 hb4 HE ⊢
              have hw1 : IntKind.i64.wrap (cc + 1) = cc + 1 := IntWalk.i64_in _ (by omega)
              have hw2 : IntKind.i64.wrap (cv + uv) = cv + uv := IntWalk.i64_in _ (by omega)
              have q := (HYa.out.block _ hzX).trans HrX.out
              have y0 := cell_of_row wa _ 0 _ _ _ q
              have y1 := cell_of_row wa _ 1 _ _ _ q
              have y2 := cell_of_row wa _ 2 _ _ _ q
              have y3 := cell_of_row wa _ 3 _ _ _ q
              have y4 := cell_of_row wa _ 4 _ _ _ q
              have y5 := cell_of_row wa _ 5 _ _ _ q
              have y6 := cell_of_row wa _ 6 _ _ _ q
              have y7 := cell_of_row wa _ 7 _ _ _ q
              have y8 := cell_of_row wa _ 8 _ _ _ q
              have y9 := cell_of_row wa _ 9 _ _ _ q
              have y10 := cell_of_row wa _ 10 _ _ _ q
              have y11 := cell_of_row wa _ 11 _ _ _ q
              clear q hb1 hb2 hb3 hb4
              go_wp2_with fail
              refine (HUn.out wa).mono ?_
              rintro e w5 ⟨rfl, hb5⟩
              have Hb5 := Lib.hid (HwA.out.trans (hb5.mono HwA.out.size))
              clear y0 y1 y2 y3 y4 y5 y6 y7 y8 y9 y10 y11 hb5
              go_wp2
              go_roundg gk
              case measure => omega
              case rel => exact ⟨k + 1, by omega, by first | rfl | simp, by rw [HE.out], by rw [HE.out], Hb5.out⟩
end Go.Proofs.YtohmdohbmmbbkaaDoor

namespace Go.Proofs.YtohmdohbmmbbkaaDoor
open Go.RowKit

/-- An agreement's cells, its steps' slice among them. -/
def AgxR (w : World) (b o : Nat) (r : Agx) : Prop := ∀ j, j < 7 → w.cell? ⟨b, o + j, none⟩ = (agxCells r)[j]?
theorem AgxR.stays : Stays AgxR := fun _ _ b _ _ hb hB h j hj => (hb.cell (p := ⟨b, _, none⟩) hB).trans (h j hj)
def AgxAt (w : World) (v : Value) (l : List Agx) : Prop := SliceAt 7 AgxR w v l
theorem AgxAt.below {w w' : World} {v : Value} {l : List Agx} (h : AgxAt w v l) (hb : Below w.heap.size w w') : AgxAt w' v l := SliceAt.below AgxR.stays h hb
theorem AgxAt.own {w : World} {base : Nat} {e : TypeId} {v : Value} {l : List Agx} (h : w.ownsRow base e 7 v l.length (l.flatMap agxCells)) : AgxAt w v l :=
  SliceAt.own agxCells (fun _ => rfl) h fun _ _ _ _ h => h
theorem sliceAt_take {α : Type} {sz : Nat} {R : World → Nat → Nat → α → Prop} {w : World} {a : Option Addr} {c : Nat} {N : List α} (h : SliceAt sz R w (.slice a N.length c) N) (j : Nat) (hj : j ≤ N.length) : SliceAt sz R w (.slice a j c) (N.take j) := by
  obtain ⟨av, cap, e, hl, hm, hx⟩ := h
  cases e
  have hlt : (N.take j).length = j := by rw [List.length_take]; omega
  refine ⟨a, c, by rw [hlt], by omega, hm, fun hne => ?_⟩
  have hN : N ≠ [] := by rintro rfl; simp at hne
  obtain ⟨b, o, rfl, hB, hx⟩ := hx hN
  refine ⟨b, o, rfl, hB, fun i hi => ?_⟩
  rw [List.getElem_take]
  exact hx i (by omega)
theorem sliceAt_drop {α : Type} {sz : Nat} {R : World → Nat → Nat → α → Prop} {w : World} {a : Option Addr} {c : Nat} {N : List α} (h : SliceAt sz R w (.slice a N.length c) N) (j : Nat) (hj : j ≤ N.length) :
    SliceAt sz R w (.slice (if c = j then a else a.map (·.add (j * sz))) (N.length - j) (c - j)) (N.drop j) := by
  obtain ⟨av, cap, e, hl, hm, hx⟩ := h
  cases e
  have hlt : (N.drop j).length = N.length - j := List.length_drop
  by_cases hc : c = j
  · rw [if_pos hc]
    have hN : N.drop j = [] := List.drop_eq_nil_of_le (by omega)
    refine ⟨a, c - j, by rw [hlt], by omega, ⟨by have := hm.1; omega, fun e => by have := hm.2 e; omega⟩, fun hne => absurd hN hne⟩
  · rw [if_neg hc]
    cases a with
    | none => have := hm.2 rfl; omega
    | some ad =>
      refine ⟨some (ad.add (j * sz)), c - j, by rw [hlt]; rfl, by omega, ⟨by have := hm.1; omega, fun e => by cases e⟩, fun hne => ?_⟩
      have hN : N ≠ [] := by rintro rfl; simp at hne
      obtain ⟨b, o, e, hB, hx2⟩ := hx hN
      cases e
      refine ⟨b, o + j * sz, by unfold Addr.add; split <;> simp_all, hB, fun i hi => ?_⟩
      rw [List.getElem_drop]
      have := hx2 (j + i) (by omega)
      rwa [Nat.add_assoc, ← Nat.add_mul]
theorem append_agx {w : World} {ops : Array Oper} {rest : List Oper} {o : Oper} {a : Act} {Q : Exit → Act → World → Prop} (hgd : o.guard = none) (s x : Operand)
    (ho : o.op = .call { callee := .builtin .append, args := #[s, x], argTypes := #[22, 22] })
    (base : Nat) (hbase : base ≤ w.heap.size) (v vx : Value) (L X : List Agx) (hs : a.eval s = v) (hx : a.eval x = vx) (hown : w.ownsRow base 53 7 v L.length (L.flatMap agxCells)) (hX : AgxAt w vx X) (hlen : L.length + X.length ≤ 10000)
    (h : ∀ R : List Agx, RowKit.Hid (R = L ++ X) → ∀ v' w', w'.ownsRow base 53 7 v' R.length (R.flatMap agxCells) → Below base w w' → wpList Tryd.prog ops Q rest (a.put o.dst v') w') : wpList Tryd.prog ops Q (o :: rest) a w := by
  obtain ⟨i0, hi, hz0, hz1, hz2⟩ := info_parts Tryd.agInfo
  obtain ⟨av, cap, rfl, hlc, hm, hX⟩ := hX
  cases av with
  | none =>
    obtain rfl := hm.2 rfl
    obtain rfl : X = [] := by
      cases X with
      | nil => rfl
      | cons p r => obtain ⟨b, o, e, -⟩ := hX (by simp); cases e
    refine wpList_append_own_none hgd s x _ ho base 53 i0 7 Tryd.underlying22 hi v L.length _ hs hown hx (h L (Lib.hid (List.append_nil _).symm) v w hown (Below.refl _ _))
  | some ad =>
    refine wpList_append_own _ hgd s x _ ho base 53 i0 _ 7 72 Tryd.underlying22 hi hz0 hz1 hz2 rfl (by decide) v L.length _ hs hown ad X.length cap (X.flatMap agxCells) hx (flat_length agxCells 7 (fun _ => rfl) X) ?_ ?_ (by unfold maxLen; omega) (by omega) hbase ?_
    · intro j u hj
      have hjl : j < X.length * 7 := by
        rw [← flat_length agxCells 7 (fun _ => rfl) X]
        exact (List.getElem?_eq_some_iff.1 hj).1
      have hi2 : j / 7 < X.length := by omega
      obtain ⟨b, o, e, -, hx2⟩ := hX (by rintro rfl; simp at hjl)
      cases e
      have c0 := hx2 (j / 7) hi2 (j % 7) (by omega)
      have hg := flat_get agxCells 7 (fun _ => rfl) X (j / 7) (j % 7) hi2 (by omega)
      rw [show j / 7 * 7 + j % 7 = j by omega, hj] at hg
      rw [show (⟨b, o, none⟩ : Addr).add j = ⟨b, o + j / 7 * 7 + j % 7, none⟩ by unfold Addr.add; split <;> simp_all; omega]
      exact c0.trans hg.symm
    · intro u hu
      obtain ⟨r, -, hr⟩ := List.mem_flatMap.1 hu
      exact agx_one r u hr
    · intro v' w' h1 h2 _
      refine h _ (Lib.hid rfl) v' w' ?_ ((Below.refl base w).grown h2 hbase (fun g hg => (ownsRow_block hown g hg).1))
      rw [List.length_append, List.flatMap_append]
      exact h1
/-- The agreements of a partner as the reference returns them: cells and steps of the list that came in. -/
def OursTo (pa : Int) (l : List Ag) (w0 w : World) (e : Ending) (w' : World) : Prop := ∃ (v : Value) (N : List Agx), e = .returned v ∧ w'.ownsRow w.heap.size 53 7 v N.length (N.flatMap agxCells) ∧ N.map (·.1) = oursL pa l ∧ (∀ r ∈ N, StepsAt w0 (agxV r) r.1.st ∧ NilOk (agxV r)) ∧ N.length ≤ l.length ∧ Below w.heap.size w w'
theorem ags_of_agx {w0 w : World} {v : Value} {N : List Agx} (h : AgxAt w v N) (hb : Below w0.heap.size w0 w) (hrd : ∀ r ∈ N, StepsAt w0 (agxV r) r.1.st ∧ NilOk (agxV r)) : AgsAt w v (N.map (·.1)) := by
  obtain ⟨av, cap, rfl, hl, hm, hx⟩ := h
  have hl2 : (N.map (fun r : Agx => r.1)).length = N.length := List.length_map ..
  rw [← hl2]
  refine ⟨av, cap, rfl, by omega, hm, fun hne => ?_⟩
  obtain ⟨b, o, e, hB, hx⟩ := hx (by rintro rfl; exact hne rfl)
  refine ⟨b, o, e, hB, fun i hi => ?_⟩
  have hi' : i < N.length := by omega
  obtain ⟨h1, h2⟩ := hrd N[i] (List.getElem_mem hi')
  have e : (N.map (fun r : Agx => r.1))[i] = N[i].1 := List.getElem_map ..
  rw [e]
  have c := hx i hi'
  exact ⟨c 0 (by omega), c 1 (by omega), c 2 (by omega), c 3 (by omega), c 4 (by omega), ⟨_, c 5 (by omega), h1.below hb, h2⟩, c 6 (by omega)⟩
theorem kO_congr (x : Ag) (N : List Agx) (n : Nat) (hn : n < N.length) : kO x (N.map (·.1)) (n + 1) = if befLt x N[n].1 then kO x (N.map (·.1)) n else n + 1 := by
  rw [kO, List.getElem?_map, List.getElem?_eq_getElem hn]
  simp
theorem insO_map (x : Agx) (N : List Agx) : (N.take (kO x.1 (N.map (·.1)) N.length) ++ [x] ++ N.drop (kO x.1 (N.map (·.1)) N.length)).map (·.1) = insO x.1 (N.map (·.1)) := by
  unfold insO
  rw [List.length_map, List.map_append, List.map_append, List.map_take, List.map_drop, List.append_assoc]
  rfl

theorem agx_one_at (w : World) (r : Agx) (t : TypeId) : AgxAt (w.alloc (Obj.cells #[Value.int .i64 r.1.pa, .int .i64 r.1.kd, .bool r.1.ib, .int .i64 r.1.fr, .int .i64 r.1.tt, agxV r, .int .i64 r.1.cap] t)) (.slice (some ⟨w.heap.size, 0, none⟩) 1 1) [r] := by
  refine ⟨_, 1, rfl, Nat.le_refl _, ⟨by decide, fun h => by cases h⟩, fun _ => ⟨w.heap.size, 0, rfl, by simp, fun i hi => ?_⟩⟩
  obtain rfl : i = 0 := by simpa using hi
  intro j hj
  rw [cell_of_row _ _ _ _ _ _ (heap_alloc_new _ _)]
  simp [agxCells]
theorem addr_add7 (g j : Nat) : (⟨g, 0, none⟩ : Addr).add j = ⟨g, j, none⟩ := by unfold Addr.add; split <;> simp_all
theorem own_down2 {w : World} {b b' : Nat} {e : TypeId} {sz n : Nat} {v : Value} {xs : List Value} (h : w.ownsRow b e sz v n xs) (hb : b' ≤ b) : w.ownsRow b' e sz v n xs := by
  obtain ⟨h1, h2⟩ := h
  refine ⟨h1, ?_⟩
  rcases h2 with h2 | ⟨g, cap, cur, hv, hg, r⟩
  · exact Or.inl h2
  · exact Or.inr ⟨g, cap, cur, hv, Nat.le_trans hb hg, r⟩

set_option maxRecDepth 100000 in
set_option maxHeartbeats 12800000 in
theorem ours_calls (v : Value) (l : List Ag) (pa : Int) (w0 w : World) (h : AgsAt w0 v l) (hb0 : Below w0.heap.size w0 w) (hll : l.length ≤ 100) : Calls Tryd.prog 30 #[v, .int .i64 pa] w (OursTo pa l w0 w) := by
  obtain ⟨Rl, hRl, hrd, av, cap, rfl, hlc, hm, hx⟩ := agx_of h
  have hRn : Rl.length = l.length := by rw [← hRl, List.length_map]
  have hx : l ≠ [] → ∃ b o, av = some ⟨b, o, none⟩ ∧ b < w.heap.size ∧ ∀ i (hi : i < Rl.length) j, j < 7 → w.cell? ⟨b, o + i * 7 + j, none⟩ = (agxCells Rl[i])[j]? := fun hne => by
    obtain ⟨b, o, e, hB, hc⟩ := hx hne
    exact ⟨b, o, e, Nat.lt_of_lt_of_le hB hb0.size, fun i hi j hj => (hb0.cell (p := ⟨b, _, none⟩) hB).trans (hc i hi j hj)⟩
  have Hrd := Lib.hid (fun r hr => And.intro (hrd r hr).1 (hrd r hr).2.1)
  have Hx := Lib.hid hx
  have HRl := Lib.hid hRl
  have hm := hm.1
  unfold maxLen at hm
  clear hx hrd hRl h hb0
  obtain ⟨n, hn⟩ : ∃ n, n = l.length := ⟨_, rfl⟩
  rw [← hn] at hRn hlc hll ⊢
  have Hn := Lib.hid hn
  have HRn := Lib.hid hRn
  clear hn hRn
  go_enter Tryd.func30, Tryd.ntmps30
  go_wp2_with fail
  go_loopg [5, 6] n (fun g vo x wr => ∃ i : Nat, i + g = n ∧ x = .int .i64 i ∧ ∃ N : List Agx, wr.ownsRow w.heap.size 53 7 vo N.length (N.flatMap agxCells) ∧ N.length ≤ i ∧ N.map (·.1) = oursL pa (l.take i) ∧ (∀ r ∈ N, r ∈ Rl) ∧ Below w.heap.size w wr)
  case atStart => exact ⟨0, by omega, rfl, [], ⟨rfl, Or.inl ⟨rfl, rfl⟩⟩, Nat.zero_le _, rfl, fun r hr => (by cases hr), Below.refl _ _⟩
  case round =>
    obtain ⟨wo, rfl⟩ : ∃ wo : World, wo = wr := ⟨_, rfl⟩
    obtain ⟨i, hig, rfl, N, hown, hNi, hNm, hNr, hbr⟩ := hrel
    have Hown := Lib.hid hown
    have HNm := Lib.hid hNm
    have HNr := Lib.hid hNr
    have Hbr := Lib.hid hbr
    obtain ⟨ao, co, rfl, hco, hcm⟩ := own_shape hown
    clear hown hNm hNr
    cases gk with
    | zero =>
      have hiz : ¬ ((i : Int) < (n : Int)) := by omega
      have HE := Lib.hid (show OursTo pa l w0 w (.returned (.slice ao N.length co)) wo from ⟨_, N, rfl, Hown.out, by
        have h := HNm.out
        rwa [List.take_of_length_le (by have := Hn.out; omega)] at h, fun r hr => Hrd.out r (HNr.out r hr), by have := Hn.out; omega, hbr⟩)
      clear hig hbr
      go_wp2
      go_ret
      exact HE.out
    | succ g0 =>
      have hlt : i < n := by omega
      have hi1 : (i : Int) < (n : Int) := by omega
      have hi0 : (0 : Int) ≤ (i : Int) := Int.natCast_nonneg _
      have hiR : i < Rl.length := by have := HRn.out; omega
      have hil : i < l.length := by have := Hn.out; omega
      obtain ⟨b, o, rfl, hB, hx⟩ := Hx.out (by intro e; rw [e] at hil; simp at hil)
      have c := fun j (hj : j < 7) => (hbr.cell (p := ⟨b, _, none⟩) hB).trans (hx i hiR j hj)
      have Hc := Lib.hid (fun wz (hz : Below wo.heap.size wo wz) j (hj : j < 7) => ((hbr.trans (hz.mono hbr.size)).cell (p := ⟨b, _, none⟩) hB).trans (hx i hiR j hj))
      have HSn := Lib.hid (show oursL pa (l.take (i + 1)) = if (Rl[i]).1.pa = pa then insO (Rl[i]).1 (oursL pa (l.take i)) else oursL pa (l.take i) by
        rw [List.take_succ_eq_append_getElem hil, oursL_snoc]
        have e : l[i] = Rl[i].1 := by
          have := HRl.out
          subst this
          exact List.getElem_map ..
        rw [e])
      have HrI := Lib.hid (List.getElem_mem hiR)
      clear hx
      generalize hr0 : Rl[i] = r at *
      clear hr0
      obtain ⟨⟨xp, xk, xi, xf, xt, xst, xcp⟩, ⟨xa, xn, xc⟩⟩ := r
      unfold agxCells agxV at c Hc
      dsimp only at c Hc HSn
      have c0 := c 0 (by omega)
      have c0 : wo.cell? ⟨b, o + i * 7, none⟩ = some (.int .i64 xp) := c0
      clear c
      by_cases hpa : xp = pa
      · have hpb : (xp != pa) = false := bne_eq_false_iff_eq.2 hpa
        have HE := Lib.hid (HSn.out.trans (if_pos hpa))
        clear hpa
        go_wp2_with fail
        go_loopg [7] N.length (fun g x wy => x = .int .i64 g ∧ g ≤ N.length ∧ kO ⟨xp, xk, xi, xf, xt, xst, xcp⟩ (N.map (·.1)) g = kO ⟨xp, xk, xi, xf, xt, xst, xcp⟩ (N.map (·.1)) N.length ∧ Below wo.heap.size wo wy)
        case atStart => exact ⟨rfl, Nat.le_refl _, rfl, Below.refl _ _⟩
        case round =>
          obtain ⟨rfl, hgN, hkO, hby⟩ := hrel
          have HkO := Lib.hid hkO
          have Hby := Lib.hid hby
          have Hbwy := Lib.hid (hbr.trans (hby.mono hbr.size))
          have HownY := Lib.hid (ownsRow_below Hown.out hby)
          have hcy := Hc.out wr hby
          clear hkO
          have d0 := hcy 0 (by omega)
          have d1 := hcy 1 (by omega)
          have d2 := hcy 2 (by omega)
          have d3 := hcy 3 (by omega)
          have d4 := hcy 4 (by omega)
          have d5 := hcy 5 (by omega)
          have d6 := hcy 6 (by omega)
          have d0 : wr.cell? ⟨b, o + i * 7, none⟩ = some (.int .i64 xp) := d0
          have hBr : b < wr.heap.size := by have := Hbwy.out.size; omega
          have f0 := fun p : BelowOf wr => BelowOf.cell (a := ⟨b, _, none⟩) hBr d0 p
          have f1 := fun p : BelowOf wr => BelowOf.cell (a := ⟨b, _, none⟩) hBr d1 p
          have f2 := fun p : BelowOf wr => BelowOf.cell (a := ⟨b, _, none⟩) hBr d2 p
          have f3 := fun p : BelowOf wr => BelowOf.cell (a := ⟨b, _, none⟩) hBr d3 p
          have f4 := fun p : BelowOf wr => BelowOf.cell (a := ⟨b, _, none⟩) hBr d4 p
          have f5 := fun p : BelowOf wr => BelowOf.cell (a := ⟨b, _, none⟩) hBr d5 p
          have f6 := fun p : BelowOf wr => BelowOf.cell (a := ⟨b, _, none⟩) hBr d6 p
          clear d0 d1 d2 d3 d4 d5 d6 hcy hBr c0
          have hrr := Below.refl wr.heap.size wr
          cases gk with
          | zero =>
            have HK := Lib.hid (show kO ⟨xp, xk, xi, xf, xt, xst, xcp⟩ (N.map (·.1)) N.length = 0 from HkO.out.symm)
            obtain ⟨kk, hkk⟩ : ∃ kk : Nat, kk = 0 := ⟨_, rfl⟩
            go_upto_region 7 with (fail)
            refine wp_region_quiet_below hrr (by kernel_rfl) (by kernel_rfl) ?_
            repeat (go_big_quiet_step (fail))
            refine wpQuiet_nil ?_
            intro wa hw'
            have hYa : Below wr.heap.size wr wa := by obtain ⟨pq, rfl⟩ := hw'; exact pq.h
            clear hw' f0 f1 f2 f3 f4 f5 f6 hrr
            have Hba := Lib.hid (Hbwy.out.trans (hYa.mono Hbwy.out.size))
            have Hbo := Lib.hid (Hby.out.trans (hYa.mono Hby.out.size))
            have HownA := Lib.hid (ownsRow_below HownY.out hYa)
            have Ht := Lib.hid (sliceAt_take (AgxAt.own HownA.out : AgxAt _ _ _) 0 (Nat.zero_le _))
            have Hd := Lib.hid (show AgxAt wa (.slice ao N.length co) (N.drop 0) from AgxAt.own HownA.out)
            have HIns := Lib.hid (insO_map (⟨xp, xk, xi, xf, xt, xst, xcp⟩, (xa, xn, xc)) N)
            have HIns : RowKit.Hid ((N.take 0 ++ [((⟨xp, xk, xi, xf, xt, xst, xcp⟩, (xa, xn, xc)) : Agx)] ++ N.drop 0).map (·.1) = insO ⟨xp, xk, xi, xf, xt, xst, xcp⟩ (N.map (·.1))) := Lib.hid (by
              have h := HIns.out
              dsimp only at h
              rwa [HK.out] at h)
            obtain ⟨P, hP0⟩ : ∃ P, P = N.take (0) := ⟨_, rfl⟩
            obtain ⟨D, hD0⟩ : ∃ D, D = N.drop (0) := ⟨_, rfl⟩
            have hlt1 : P.length ≤ N.length := by rw [hP0, List.length_take]; omega
            have hld1 : P.length + D.length = N.length := by rw [hP0, hD0, ← List.length_append, List.take_append_drop]
            have hPm : ∀ r ∈ P, r ∈ N := fun r hr => List.mem_of_mem_take (hP0 ▸ hr)
            have hDm : ∀ r ∈ D, r ∈ N := fun r hr => List.mem_of_mem_drop (hD0 ▸ hr)
            rw [← hP0] at Ht
            rw [← hD0] at Hd
            rw [← hP0, ← hD0] at HIns
            have HPm := Lib.hid hPm
            have HDm := Lib.hid hDm
            clear hP0 hD0 hPm hDm
            obtain ⟨Y, hY⟩ : ∃ Y, Y = wa.alloc (Obj.cells #[] 53) := ⟨_, rfl⟩
            have hbY : Below wa.heap.size wa Y := by rw [hY]; exact (Below.refl _ _).alloc (Nat.le_refl _) _
            have hown0 : Y.ownsRow wa.heap.size 53 7 (.slice (some ⟨wa.heap.size, 0, none⟩) 0 0) 0 [] := by
              rw [hY]
              exact ⟨rfl, Or.inr ⟨wa.heap.size, 0, #[], rfl, Nat.le_refl _, heap_alloc_new _ _, Nat.le_refl _, by decide, rfl, rfl⟩⟩
            have Hown0 := Lib.hid hown0
            have HbY := Lib.hid hbY
            have HY := Lib.hid hY
            clear hY hbY hown0 hYa
            have hbs := HbY.out.size
            have hba := Hba.out.size
            have hbo := Hbo.out.size
            go_wp2_with (at_builtin; rw [← HY.out]; refine append_agx rfl _ _ rfl wa.heap.size hbs _ _ [] P rfl rfl Hown0.out ?hX1 ?hl1 ?_)
            case hX1 => exact AgxAt.below Ht.out HbY.out
            case hl1 => first | omega | (simp; omega)
            intro P5 hP5 v5 w5 own5 hb5
            obtain rfl : P = P5 := hP5.out.symm
            clear hP5
            have Hb5 := Lib.hid (HbY.out.trans hb5)
            have Own5 := Lib.hid own5
            have hbs5 := Hb5.out.size
            obtain ⟨a5, c5, rfl, hc5, hm5⟩ := own_shape own5
            clear own5 hb5
            have hcy := Hc.out w5 (Hbo.out.trans (Hb5.out.mono hbo))
            have d0 := hcy 0 (by omega)
            have d1 := hcy 1 (by omega)
            have d2 := hcy 2 (by omega)
            have d3 := hcy 3 (by omega)
            have d4 := hcy 4 (by omega)
            have d5 := hcy 5 (by omega)
            have d6 := hcy 6 (by omega)
            have d0 : w5.cell? ⟨b, o + i * 7, none⟩ = some (.int .i64 xp) := d0
            have HX2 := Lib.hid (agx_one_at w5 (⟨xp, xk, xi, xf, xt, xst, xcp⟩, (xa, xn, xc)) 53)
            unfold agxV at HX2
            dsimp only at HX2
            clear hcy
            go_wp2_with (at_builtin; refine append_agx rfl _ _ rfl wa.heap.size ?hs2 _ _ P [(⟨xp, xk, xi, xf, xt, xst, xcp⟩, (xa, xn, xc))] rfl rfl (Own5.out.alloc _) HX2.out ?hl2 ?_)
            case hs2 => simp; omega
            case hl2 => simp; omega
            intro R6 hR6 v6 w6 own6 hb6
            have Hb6 := Lib.hid ((Hb5.out.alloc hbs5 (Obj.cells #[Value.int .i64 xp, .int .i64 xk, .bool xi, .int .i64 xf, .int .i64 xt, .slice xa xn xc, .int .i64 xcp] 53)).trans hb6)
            have HR6 := Lib.hid hR6.out
            have hR6l : R6.length = P.length + 1 := by rw [hR6.out, List.length_append]; rfl
            have hbs6 := Hb6.out.size
            obtain ⟨a6, c6, rfl, hc6, hm6⟩ := own_shape own6
            have Own6 := Lib.hid own6
            have HR6l := Lib.hid hR6l
            have hR6b : R6.length ≤ N.length + 1 := by omega
            have hR6d : R6.length + D.length ≤ N.length + 1 := by omega
            clear own6 hb6 hR6 hR6l d0 d1 d2 d3 d4 d5 d6

            go_wp2_with (at_builtin; refine append_agx rfl _ _ rfl wa.heap.size ?hs3 _ _ R6 D rfl rfl Own6.out ?hX3 ?hl3 ?_)
            case hs3 => exact hbs6
            case hX3 => exact AgxAt.below Hd.out Hb6.out
            case hl3 => omega
            intro R hR v7 w7 own7 hb7
            have hR := hR.out
            have Hb7 := Lib.hid (Hba.out.trans ((Hb6.out.trans hb7).mono hba))
            have Own7 := Lib.hid (own_down2 own7 hba)
            have hRl : R.length ≤ i + 1 := by rw [hR, List.length_append]; omega
            have HRm := Lib.hid (show R.map (·.1) = oursL pa (l.take (i + 1)) by rw [HE.out, ← HNm.out, hR, HR6.out, HIns.out])
            have HRr := Lib.hid (show ∀ r ∈ R, r ∈ Rl by
              intro r hr
              rw [hR, HR6.out, List.mem_append, List.mem_append, List.mem_singleton] at hr
              rcases hr with (hr | rfl) | hr
              · exact HNr.out r (HPm.out r hr)
              · exact HrI.out
              · exact HNr.out r (HDm.out r hr))
            clear own7 hb7 hR
            go_wp2
            go_roundg g0
            case measure => omega
            case rel => exact ⟨i + 1, by omega, by first | rfl | simp, R, Own7.out, hRl, HRm.out, HRr.out, Hb7.out⟩
          | succ n0 =>
            have hn0 : n0 < N.length := by omega
            obtain ⟨g, rfl⟩ : ∃ g, ao = some ⟨g, 0, none⟩ := by
              rcases HownY.out.2 with ⟨h1, h2⟩ | ⟨g, cap', cur, hv, -⟩
              · omega
              · simp only [Value.slice.injEq] at hv
                exact ⟨g, hv.1⟩
            have hgW := (ownsRow_block HownY.out g rfl).2
            have hzr := fun j (hj : j < 7) => (HownY.out.cellAt (n0 * 7 + j) (by omega)).trans (flat_get agxCells 7 (fun _ => rfl) N n0 j hn0 hj)
            have HkS := Lib.hid (HkO.out.symm.trans (kO_congr ⟨xp, xk, xi, xf, xt, xst, xcp⟩ N n0 hn0))
            generalize N[n0] = r at *
            obtain ⟨⟨yp, yk, yi, yf, yt, yst, ycp⟩, ⟨ya, yn, yc⟩⟩ := r
            unfold agxCells agxV at hzr
            dsimp only at hzr HkS
            have e0 := fun p : BelowOf wr => BelowOf.cell (a := ⟨g, _, none⟩) hgW (hzr 0 (by omega)) p
            have e1 := fun p : BelowOf wr => BelowOf.cell (a := ⟨g, _, none⟩) hgW (hzr 1 (by omega)) p
            have e2 := fun p : BelowOf wr => BelowOf.cell (a := ⟨g, _, none⟩) hgW (hzr 2 (by omega)) p
            have e3 := fun p : BelowOf wr => BelowOf.cell (a := ⟨g, _, none⟩) hgW (hzr 3 (by omega)) p
            have e4 := fun p : BelowOf wr => BelowOf.cell (a := ⟨g, _, none⟩) hgW (hzr 4 (by omega)) p
            have e5 := fun p : BelowOf wr => BelowOf.cell (a := ⟨g, _, none⟩) hgW (hzr 5 (by omega)) p
            have e6 := fun p : BelowOf wr => BelowOf.cell (a := ⟨g, _, none⟩) hgW (hzr 6 (by omega)) p
            have e0 : ∀ p : BelowOf wr, p.w.cell? ⟨g, n0 * 7, none⟩ = some (.int .i64 yp) := e0
            clear hzr hgW
            obtain ⟨bf, hbf⟩ : ∃ bf, bf = decide (befLt ⟨xp, xk, xi, xf, xt, xst, xcp⟩ ⟨yp, yk, yi, yf, yt, yst, ycp⟩) := ⟨_, rfl⟩
            have HBf := Lib.hid (fun w' => rbefore_calls ⟨xp, xk, xi, xf, xt, xst, xcp⟩ ⟨yp, yk, yi, yf, yt, yst, ycp⟩ xa ya xn xc yn yc w')
            rw [← hbf] at HBf
            unfold agVal at HBf
            dsimp only at HBf
            have Hbf := Lib.hid hbf
            clear hbf
            have hsub : IntKind.i64.wrap ((n0 : Int) + 1 - 1) = (n0 : Int) := by rw [show (n0 : Int) + 1 - 1 = n0 by omega]; exact IntWalk.i64_in _ (by omega)
            have hn0c : (n0 : Int) < (N.length : Int) := by omega
            have hn00 : (0 : Int) ≤ (n0 : Int) := Int.natCast_nonneg _
            have hn0p : (0 : Int) < (n0 : Int) + 1 := by omega
            go_upto_region 7 with (fail)
            refine wp_region_quiet_below hrr (by kernel_rfl) (by kernel_rfl) ?_
            repeat (go_big_quiet_step (first | (go_at_call 51; refine calls_below_of (HBf.out _) (fun e w' h => h))))
            refine wpQuiet_nil ?_
            intro wa hw'
            clear e0 e1 e2 e3 e4 e5 e6
            cases bf with
            | true =>
              have HE2 := Lib.hid (HkS.out.trans (if_pos (of_decide_eq_true Hbf.out.symm)))
              have hYa : Below wr.heap.size wr wa := by obtain ⟨pq, rfl⟩ := hw'; exact pq.h
              have Hbo := Lib.hid (Hby.out.trans (hYa.mono Hby.out.size))
              clear f0 f1 f2 f3 f4 f5 f6 hrr hw' hYa
              go_wp2
              go_roundg n0
              case measure => omega
              case rel => exact ⟨by first | rfl | simp, by omega, HE2.out.symm, Hbo.out⟩
            | false =>
              have HK := Lib.hid (HkS.out.trans (if_neg (of_decide_eq_false Hbf.out.symm)))
              have hYa : Below wr.heap.size wr wa := by obtain ⟨pq, rfl⟩ := hw'; exact pq.h
              clear hw' f0 f1 f2 f3 f4 f5 f6 hrr
              have Hba := Lib.hid (Hbwy.out.trans (hYa.mono Hbwy.out.size))
              have Hbo := Lib.hid (Hby.out.trans (hYa.mono Hby.out.size))
              have HownA := Lib.hid (ownsRow_below HownY.out hYa)
              have Ht := Lib.hid (sliceAt_take (AgxAt.own HownA.out : AgxAt _ _ _) (n0 + 1) hn0)
              have Hd := Lib.hid (sliceAt_drop (AgxAt.own HownA.out : AgxAt _ _ _) (n0 + 1) hn0)
              have HIns := Lib.hid (insO_map (⟨xp, xk, xi, xf, xt, xst, xcp⟩, (xa, xn, xc)) N)
              have HIns : RowKit.Hid ((N.take (n0 + 1) ++ [((⟨xp, xk, xi, xf, xt, xst, xcp⟩, (xa, xn, xc)) : Agx)] ++ N.drop (n0 + 1)).map (·.1) = insO ⟨xp, xk, xi, xf, xt, xst, xcp⟩ (N.map (·.1))) := Lib.hid (by
                have h := HIns.out
                dsimp only at h
                rwa [HK.out] at h)
              obtain ⟨P, hP0⟩ : ∃ P, P = N.take ((n0 + 1)) := ⟨_, rfl⟩
              obtain ⟨D, hD0⟩ : ∃ D, D = N.drop ((n0 + 1)) := ⟨_, rfl⟩
              have hlt1 : P.length ≤ N.length := by rw [hP0, List.length_take]; omega
              have hld1 : P.length + D.length = N.length := by rw [hP0, hD0, ← List.length_append, List.take_append_drop]
              have hPm : ∀ r ∈ P, r ∈ N := fun r hr => List.mem_of_mem_take (hP0 ▸ hr)
              have hDm : ∀ r ∈ D, r ∈ N := fun r hr => List.mem_of_mem_drop (hD0 ▸ hr)
              rw [← hP0] at Ht
              rw [← hD0] at Hd
              rw [← hP0, ← hD0] at HIns
              have HPm := Lib.hid hPm
              have HDm := Lib.hid hDm
              clear hP0 hD0 hPm hDm
              obtain ⟨Y, hY⟩ : ∃ Y, Y = wa.alloc (Obj.cells #[] 53) := ⟨_, rfl⟩
              have hbY : Below wa.heap.size wa Y := by rw [hY]; exact (Below.refl _ _).alloc (Nat.le_refl _) _
              have hown0 : Y.ownsRow wa.heap.size 53 7 (.slice (some ⟨wa.heap.size, 0, none⟩) 0 0) 0 [] := by
                rw [hY]
                exact ⟨rfl, Or.inr ⟨wa.heap.size, 0, #[], rfl, Nat.le_refl _, heap_alloc_new _ _, Nat.le_refl _, by decide, rfl, rfl⟩⟩
              have Hown0 := Lib.hid hown0
              have HbY := Lib.hid hbY
              have HY := Lib.hid hY
              clear hY hbY hown0 hYa
              have hbs := HbY.out.size
              have hba := Hba.out.size
              have hbo := Hbo.out.size
              go_wp2_with (at_builtin; rw [← HY.out]; refine append_agx rfl _ _ rfl wa.heap.size hbs _ _ [] P rfl rfl Hown0.out ?hX1 ?hl1 ?_)
              case hX1 => exact AgxAt.below Ht.out HbY.out
              case hl1 => first | omega | (simp; omega)
              intro P5 hP5 v5 w5 own5 hb5
              obtain rfl : P = P5 := hP5.out.symm
              clear hP5
              have Hb5 := Lib.hid (HbY.out.trans hb5)
              have Own5 := Lib.hid own5
              have hbs5 := Hb5.out.size
              obtain ⟨a5, c5, rfl, hc5, hm5⟩ := own_shape own5
              clear own5 hb5
              have hcy := Hc.out w5 (Hbo.out.trans (Hb5.out.mono hbo))
              have d0 := hcy 0 (by omega)
              have d1 := hcy 1 (by omega)
              have d2 := hcy 2 (by omega)
              have d3 := hcy 3 (by omega)
              have d4 := hcy 4 (by omega)
              have d5 := hcy 5 (by omega)
              have d6 := hcy 6 (by omega)
              have d0 : w5.cell? ⟨b, o + i * 7, none⟩ = some (.int .i64 xp) := d0
              have HX2 := Lib.hid (agx_one_at w5 (⟨xp, xk, xi, xf, xt, xst, xcp⟩, (xa, xn, xc)) 53)
              unfold agxV at HX2
              dsimp only at HX2
              clear hcy
              go_wp2_with (at_builtin; refine append_agx rfl _ _ rfl wa.heap.size ?hs2 _ _ P [(⟨xp, xk, xi, xf, xt, xst, xcp⟩, (xa, xn, xc))] rfl rfl (Own5.out.alloc _) HX2.out ?hl2 ?_)
              case hs2 => simp; omega
              case hl2 => simp; omega
              intro R6 hR6 v6 w6 own6 hb6
              have Hb6 := Lib.hid ((Hb5.out.alloc hbs5 (Obj.cells #[Value.int .i64 xp, .int .i64 xk, .bool xi, .int .i64 xf, .int .i64 xt, .slice xa xn xc, .int .i64 xcp] 53)).trans hb6)
              have HR6 := Lib.hid hR6.out
              have hR6l : R6.length = P.length + 1 := by rw [hR6.out, List.length_append]; rfl
              have hbs6 := Hb6.out.size
              obtain ⟨a6, c6, rfl, hc6, hm6⟩ := own_shape own6
              have Own6 := Lib.hid own6
              have HR6l := Lib.hid hR6l
              have hR6b : R6.length ≤ N.length + 1 := by omega
              have hR6d : R6.length + D.length ≤ N.length + 1 := by omega
              clear own6 hb6 hR6 hR6l d0 d1 d2 d3 d4 d5 d6

              by_cases hco1 : co = n0 + 1
              · have Hd := Lib.hid (show AgxAt wa (.slice (some ⟨g, 0, none⟩) (N.length - (n0 + 1)) 0) D by
                  have h := Hd.out
                  rw [if_pos hco1, hco1, Nat.sub_self] at h
                  exact h)
                go_wp2_with (at_builtin; refine append_agx rfl _ _ rfl wa.heap.size ?hs3 _ _ R6 D rfl rfl Own6.out ?hX3 ?hl3 ?_)
                case hs3 => exact hbs6
                case hX3 => exact AgxAt.below Hd.out Hb6.out
                case hl3 => omega
                intro R hR v7 w7 own7 hb7
                have hR := hR.out
                have Hb7 := Lib.hid (Hba.out.trans ((Hb6.out.trans hb7).mono hba))
                have Own7 := Lib.hid (own_down2 own7 hba)
                have hRl : R.length ≤ i + 1 := by rw [hR, List.length_append]; omega
                have HRm := Lib.hid (show R.map (·.1) = oursL pa (l.take (i + 1)) by rw [HE.out, ← HNm.out, hR, HR6.out, HIns.out])
                have HRr := Lib.hid (show ∀ r ∈ R, r ∈ Rl by
                  intro r hr
                  rw [hR, HR6.out, List.mem_append, List.mem_append, List.mem_singleton] at hr
                  rcases hr with (hr | rfl) | hr
                  · exact HNr.out r (HPm.out r hr)
                  · exact HrI.out
                  · exact HNr.out r (HDm.out r hr))
                clear own7 hb7 hR
                go_wp2
                go_roundg g0
                case measure => omega
                case rel => exact ⟨i + 1, by omega, by first | rfl | simp, R, Own7.out, hRl, HRm.out, HRr.out, Hb7.out⟩
              · have Hd := Lib.hid (show AgxAt wa (.slice (some ⟨g, (n0 + 1) * 7, none⟩) (N.length - (n0 + 1)) (co - (n0 + 1))) D by
                  have h := Hd.out
                  rw [if_neg hco1, Option.map_some, addr_add7] at h
                  exact h)
                go_wp2_with (at_builtin; refine append_agx rfl _ _ rfl wa.heap.size ?hs3 _ _ R6 D rfl rfl Own6.out ?hX3 ?hl3 ?_)
                case hs3 => exact hbs6
                case hX3 => exact AgxAt.below Hd.out Hb6.out
                case hl3 => omega
                intro R hR v7 w7 own7 hb7
                have hR := hR.out
                have Hb7 := Lib.hid (Hba.out.trans ((Hb6.out.trans hb7).mono hba))
                have Own7 := Lib.hid (own_down2 own7 hba)
                have hRl : R.length ≤ i + 1 := by rw [hR, List.length_append]; omega
                have HRm := Lib.hid (show R.map (·.1) = oursL pa (l.take (i + 1)) by rw [HE.out, ← HNm.out, hR, HR6.out, HIns.out])
                have HRr := Lib.hid (show ∀ r ∈ R, r ∈ Rl by
                  intro r hr
                  rw [hR, HR6.out, List.mem_append, List.mem_append, List.mem_singleton] at hr
                  rcases hr with (hr | rfl) | hr
                  · exact HNr.out r (HPm.out r hr)
                  · exact HrI.out
                  · exact HNr.out r (HDm.out r hr))
                clear own7 hb7 hR
                go_wp2
                go_roundg g0
                case measure => omega
                case rel => exact ⟨i + 1, by omega, by first | rfl | simp, R, Own7.out, hRl, HRm.out, HRr.out, Hb7.out⟩
      · have hpb : (xp != pa) = true := bne_iff_ne.2 hpa
        have HE := Lib.hid (HSn.out.trans (if_neg hpa))
        clear hpa
        go_wp2
        go_roundg g0
        case measure => omega
        case rel => exact ⟨i + 1, by omega, by first | rfl | simp, N, Hown.out, by omega, by rw [HE.out]; exact HNm.out, HNr.out, Hbr.out⟩
end Go.Proofs.YtohmdohbmmbbkaaDoor
