/-
  The walk of cycle.lives: an iterator over the lives of accounts.
  The walk of cycle.find: the life of an account.
  ContainsFunc at events, and the first closure of recurring.all.
-/
import Derived.Test.YtngippiilgdnoaaGreatMpaz
import Derived.Test.YtngippiilgdnoaaGreatMpas
import Derived.RangeFuncNested
import Derived.RangeFuncBound
import Derived.RangeFuncCalls
import Derived.RangeFuncLeaves
import Derived.Shelf.Abstract
import Derived.Shelf.RegionOpen
import Derived.WalkKit
import Derived.OwnWalkIn
import Derived.TacticsInMore
import Derived.LoopNIn
import Derived.LoopIn
import Derived.Sort.LoopGhostIn
import Derived.Sort.QuietIn
import Derived.Test.YtngippiilgdnoaaGreatMpao
namespace Go.Proofs.YtngippiilgdnoaaGreat
open Go.RowKit Go.Shelf

attribute [local go_sem] Oper.semAt_some

/-- What a round over the lives keeps: what lay at the start, and the box of the events. -/
def KpL (n₀ Bs : Nat) (W W' : World) : Prop := Below n₀ W W' ∧ W'.heap[Bs]? = W.heap[Bs]?
theorem KpL.trans {n₀ Bs : Nat} {A B C : World} (h : KpL n₀ Bs A B) (g : KpL n₀ Bs B C) : KpL n₀ Bs A C := ⟨h.1.trans g.1, g.2.trans h.2⟩
theorem KpL.refl (n₀ Bs : Nat) (A : World) : KpL n₀ Bs A A := ⟨Below.refl _ _, rfl⟩
end Go.Proofs.YtngippiilgdnoaaGreat

namespace Go.Proofs.YtngippiilgdnoaaGreat
open Go.RowKit Go.Shelf

attribute [local go_sem] Oper.semAt_some

end Go.Proofs.YtngippiilgdnoaaGreat

namespace Go.Proofs.YtngippiilgdnoaaGreat
open Go.RowKit

theorem anyE_snoc {α : Type} {p : α → Bool} {l : List α} {k : Nat} (hk : k < l.length) (h : (l.take k).any p = false) (h2 : p l[k] = false) : (l.take (k + 1)).any p = false := by
  rw [List.take_succ_eq_append_getElem hk, List.any_append, h]
  simp [h2]
set_option maxRecDepth 100000 in
set_option maxHeartbeats 3200000 in
theorem indexE_calls (v : Value) (l : List Ev) (w : World) (h : EvsAt w v l) (p : Ev → Bool) (g : Nat) (lb : Array Value) (eg : ∀ args w, (callFunc g args).run Tryz.prog w = .ok (.enter g args) w)
    (hp : ∀ (W : World) (x : Ev), Below w.heap.size w W → x ∈ l → Calls Tryz.prog g (#[evVal x] ++ lb) W fun e w' => e = .returned (.bool (p x)) ∧ Below W.heap.size W w') :
    Calls Tryz.prog 132 #[v, .func (.func g) #[] lb] w fun e w' => e = .returned (.int .i64 (ixOf p l)) ∧ Below w.heap.size w w' := by
  have hh := h.1
  obtain ⟨⟨av, cap, rfl, hlc, hm, -⟩, -⟩ := h
  have hm := hm.1
  unfold maxLen at hm
  have Hp := Lib.hid hp
  clear hp
  go_enter Tryz.func132, Tryz.ntmps132
  go_wp2_with fail
  go_loopw [5, 8] (fun _ i wr => ∃ k : Nat, k ≤ l.length ∧ i = .int .i64 k ∧ (l.take k).any p = false ∧ Below w.heap.size w wr) (fun _ i _ => l.length - (intOf i).toNat)
  case atStart => exact ⟨0, Nat.zero_le _, rfl, rfl, Below.refl _ _⟩
  case round =>
    obtain ⟨k, hk, rfl, hn, hb⟩ := hrel
    have Hn := Lib.hid hn
    clear hn
    by_cases hlt : k < l.length
    · obtain ⟨av2, cap2, e2, -, -, hx⟩ := hh.below hb
      cases e2
      obtain ⟨b, o, rfl, hB, hx⟩ := hx (by rintro rfl; cases hlt)
      have c0 : wr.cell? ⟨b, o + k * 7, none⟩ = some (.int .i64 (l[k]).tm) := hx k hlt 0 (by decide)
      have c1 : wr.cell? ⟨b, o + k * 7 + 1, none⟩ = some (.int .i64 (l[k]).kd) := hx k hlt 1 (by decide)
      have c2 : wr.cell? ⟨b, o + k * 7 + 2, none⟩ = some (.int .i64 (l[k]).ac) := hx k hlt 2 (by decide)
      have c3 : wr.cell? ⟨b, o + k * 7 + 3, none⟩ = some (.int .i64 (l[k]).sb) := hx k hlt 3 (by decide)
      have c4 : wr.cell? ⟨b, o + k * 7 + 4, none⟩ = some (.string (l[k]).nu) := hx k hlt 4 (by decide)
      have c5 : wr.cell? ⟨b, o + k * 7 + 5, none⟩ = some (.string (l[k]).nm) := hx k hlt 5 (by decide)
      have c6 : wr.cell? ⟨b, o + k * 7 + 6, none⟩ = some (.int .i64 (l[k]).vl) := hx k hlt 6 (by decide)
      have hk0 : (0 : Int) ≤ (k : Int) := Int.natCast_nonneg _
      have hk1 : (k : Int) < (l.length : Int) := by omega
      have HF := Lib.hid (fun h2 => anyE_snoc (p := p) hlt Hn.out h2)
      have HT := Lib.hid (fun h2 => ixOf_hit (p := p) hlt Hn.out h2)
      have hcall := Hp.out wr l[k] hb (List.getElem_mem hlt)
      unfold evVal at hcall
      clear hx
      generalize l[k] = y at *
      cases hE : p y with
      | true =>
        rw [hE] at hcall
        have Hcall := Lib.hid hcall
        clear hcall
        have Hb := Lib.hid hb
        go_wp2_with fail
        refine Hcall.out.mono ?_
        rintro e w' ⟨rfl, hb'⟩
        have Hb' := Lib.hid hb'
        clear hb'
        have HI := Lib.hid (HT.out hE)
        go_wp2
        go_ret
        exact ⟨ret_int HI.out.symm, Hb.out.trans (Hb'.out.mono Hb.out.size)⟩
      | false =>
        rw [hE] at hcall
        have Hcall := Lib.hid hcall
        clear hcall
        have Hb := Lib.hid hb
        go_wp2_with fail
        refine Hcall.out.mono ?_
        rintro e w' ⟨rfl, hb'⟩
        have Hb' := Lib.hid hb'
        clear hb'
        go_wp2
        exact ⟨⟨k + 1, by omega, by go_num, HF.out hE, Hb.out.trans (Hb'.out.mono Hb.out.size)⟩, by simp [intOf]; omega⟩
    · have HE := Lib.hid (ixOf_end (p := p) (by omega) Hn.out)
      go_wp2
      go_ret
      exact ⟨ret_int HE.out.symm, hb⟩

theorem ixOf_any {α : Type} (p : α → Bool) (l : List α) : decide (0 ≤ ixOf p l) = l.any p := by
  rcases ixOf_cases p l with ⟨h, e⟩ | ⟨k, hk, h, hp, -⟩
  · rw [h, e]; rfl
  · rw [h, any_hit hk hp]
    exact decide_eq_true (Int.natCast_nonneg _)
set_option maxHeartbeats 400000 in
theorem containsE_calls (v : Value) (l : List Ev) (w : World) (h : EvsAt w v l) (p : Ev → Bool) (g : Nat) (lb : Array Value) (eg : ∀ args w, (callFunc g args).run Tryz.prog w = .ok (.enter g args) w)
    (hp : ∀ (W : World) (x : Ev), Below w.heap.size w W → x ∈ l → Calls Tryz.prog g (#[evVal x] ++ lb) W fun e w' => e = .returned (.bool (p x)) ∧ Below W.heap.size W w') :
    Calls Tryz.prog 81 #[v, .func (.func g) #[] lb] w fun e w' => e = .returned (.bool (l.any p)) ∧ Below w.heap.size w w' := by
  have Hc := Lib.hid (indexE_calls v l w h p g lb eg hp)
  have HA := Lib.hid (ixOf_any p l)
  clear hp
  obtain ⟨⟨av, cap, rfl, -, -, -⟩, -⟩ := h
  go_enter Tryz.func81, Tryz.ntmps81
  go_wp2_with fail
  refine Hc.out.mono ?_
  rintro e w1 ⟨rfl, hb⟩
  generalize ixOf p l = i at *
  by_cases h0 : 0 ≤ i
  · go_wp2
    go_ret
    exact ⟨ret_bool (by rw [← HA.out]; try simp [h0]), hb⟩
  · go_wp2
    go_ret
    exact ⟨ret_bool (by rw [← HA.out]; try simp [h0]), hb⟩

/-- The event that adds a subscription to an account. -/
def addsB (s a : Int) (x : Ev) : Bool := decide (x.kd = 3) && decide (x.sb = s) && decide (x.ac = a)
set_option maxRecDepth 100000 in
set_option maxHeartbeats 1600000 in
theorem owned_calls (x : Ev) (B A : Nat) (s a : Int) (W : World) (hB : B < W.heap.size) (hA : A < W.heap.size) (cB : W.cell? ⟨B, 3, none⟩ = some (.int .i64 s)) (cA : W.cell? ⟨A, 0, none⟩ = some (.int .i64 a)) :
    Calls Tryz.prog 80 (#[evVal x] ++ #[.pointer (some ⟨B, 0, none⟩), .pointer (some ⟨A, 0, none⟩)]) W fun e w' => e = .returned (.bool (addsB s a x)) ∧ Below W.heap.size W w' := by
  have HV := Lib.hid (show addsB s a x = (decide (x.kd = 3) && decide (x.sb = s) && decide (x.ac = a)) from rfl)
  obtain ⟨tm, kd, ac, sb, nu, nm, vl⟩ := x
  dsimp only at HV
  unfold evVal
  have hB1 : ¬ B = W.heap.size := by omega
  have hA1 : ¬ A = W.heap.size := by omega
  have Ha := Lib.hid (fun o => (Below.refl W.heap.size W).alloc (Nat.le_refl _) o)
  by_cases h1 : kd = 3
  · by_cases h2 : sb = s
    · by_cases h3 : ac = a
      · have e1 : (kd == 3) = true := beq_iff_eq.2 h1
        have e2 : (sb == s) = true := beq_iff_eq.2 h2
        have e3 : (ac == a) = true := beq_iff_eq.2 h3
        have HE := Lib.hid (show addsB s a ⟨tm, kd, ac, sb, nu, nm, vl⟩ = true by rw [HV.out]; simp [h1, h2, h3])
        clear h1 h2 h3
        go_enter Tryz.func80, Tryz.ntmps80
        go_wp2
        go_ret
        exact ⟨ret_bool HE.out.symm, Ha.out _⟩
      · have e1 : (kd == 3) = true := beq_iff_eq.2 h1
        have e2 : (sb == s) = true := beq_iff_eq.2 h2
        have e3 : (ac == a) = false := beq_eq_false_iff_ne.2 h3
        have HE := Lib.hid (show addsB s a ⟨tm, kd, ac, sb, nu, nm, vl⟩ = false by rw [HV.out]; simp [h3])
        clear h1 h2 h3
        go_enter Tryz.func80, Tryz.ntmps80
        go_wp2
        go_ret
        exact ⟨ret_bool HE.out.symm, Ha.out _⟩
    · have e1 : (kd == 3) = true := beq_iff_eq.2 h1
      have e2 : (sb == s) = false := beq_eq_false_iff_ne.2 h2
      have HE := Lib.hid (show addsB s a ⟨tm, kd, ac, sb, nu, nm, vl⟩ = false by rw [HV.out]; simp [h2])
      clear h1 h2
      go_enter Tryz.func80, Tryz.ntmps80
      go_wp2
      go_ret
      exact ⟨ret_bool HE.out.symm, Ha.out _⟩
  · have e1 : (kd == 3) = false := beq_eq_false_iff_ne.2 h1
    have HE := Lib.hid (show addsB s a ⟨tm, kd, ac, sb, nu, nm, vl⟩ = false by rw [HV.out]; simp [h1])
    clear h1
    go_enter Tryz.func80, Tryz.ntmps80
    go_wp2
    go_ret
    exact ⟨ret_bool HE.out.symm, Ha.out _⟩
end Go.Proofs.YtngippiilgdnoaaGreat
