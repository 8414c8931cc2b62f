/-
  The walk of ladder.price: what units cost, or that it is too much.
  The walks of the reference's inStep and cost.
-/
import Derived.Test.YtohmdohbmmbbkaaDoorMgam
namespace Go.Proofs.YtohmdohbmmbbkaaDoor
open Go.RowKit

/-- What ladder.price returns where all units together cost T. -/
def priceV (T : Int) : Value := .tuple #[.int .i64 (if 1125899906842624 < T then 0 else T), .bool (decide (¬ 1125899906842624 < T))]
theorem priceV_yes {S T : Int} (hS : S = T) (h : S ≤ 1125899906842624) : Ending.returned (.tuple #[.int .i64 S, .bool true]) = Ending.returned (priceV T) := by
  subst hS; unfold priceV; rw [if_neg (by omega), decide_eq_true (by omega)]
theorem priceV_no {T : Int} (h : 1125899906842624 < T) : Ending.returned (.tuple #[.int .i64 0, .bool false]) = Ending.returned (priceV T) := by
  unfold priceV; rw [if_pos h, decide_eq_false (by omega)]

theorem blocks_pos {q n : Int} (hq : 1 ≤ q) (hn : 1 ≤ n) : 1 ≤ (n + q - 1) / q := by
  rw [Int.le_ediv_iff_mul_le (by omega)]; omega
theorem blocks_le {q n : Int} (hq : 1 ≤ q) (hn : 1 ≤ n) : (n + q - 1) / q ≤ n := by
  have := Int.ediv_lt_of_lt_mul (a := n + q - 1) (b := n + 1) (c := q) (by omega) (by
    have : n * 1 ≤ n * q := Int.mul_le_mul_of_nonneg_left hq (by omega)
    rw [Int.add_mul]; omega)
  omega
theorem gt_quo {p m c : Int} (hc : 1 ≤ c) : m / c < p ↔ m < c * p := by
  rw [Int.ediv_lt_iff_lt_mul (by omega), Int.mul_comm]

theorem below_drewN {B : Nat} {a w : World} (h : Below B a w) (n : Nat) : Below B a (w.drewN n) := ⟨h.os, h.tape, h.output, h.size, h.block⟩

/-- A round of the loop in which units fall into the step. -/
theorem price_round {u q p bd n S T x : Int} (r : List St) (h : T = S + totF (⟨u, q, p⟩ :: r) bd n) (hx : x = if u ≠ 0 ∧ u < n then u else n) (hb : bd < x) : T = S + (x - bd + q - 1) / q * p + totF r u n := by
  rw [h, totF, costS, inS]; dsimp only
  rw [← hx, show max 0 (x - bd) = x - bd from by omega]; omega

set_option maxHeartbeats 400000 in
theorem price_walk (b o cap : Nat) (l : List St) (n : Int) (w : World) (hok : errL l = 0) (hn0 : 0 ≤ n) (hn1 : n ≤ 1099511627776) (hB : b < w.heap.size) (hs : ∀ i (h : i < l.length), StCells w b (o + i * 3) l[i]) :
    Calls Tryd.prog 84 #[.slice (some ⟨b, o, none⟩) l.length cap, .int .i64 n] w fun e w' =>
      e = .returned (priceV (tot l n)) ∧ Below w.heap.size w w' := by
  obtain ⟨hl1, hl2, hF⟩ := errL_ok hok
  have hT := tot_nonneg hok n
  have ht : tot l n = totF l 0 n := rfl
  clear hok
  generalize tot l n = T at *
  have Ht := Lib.hid ht
  have HF := Lib.hid hF
  clear ht hF
  go_enter Tryd.func84, Tryd.ntmps84
  go_wp2
  go_loopw [6, 7, 14] (fun sv fv i wr => ∃ (k : Nat) (S F : Int), k ≤ l.length ∧ i = .int .i64 k ∧ sv = .int .i64 S ∧ fv = .int .i64 F ∧ 0 ≤ S ∧ S ≤ 1125899906842624 ∧ OkF (l.drop k) (lastU l k) ∧ T = S + totF (l.drop k) (lastU l k) n
    ∧ (k < l.length → F = min n (lastU l k) ∧ 0 ≤ lastU l k) ∧ Below w.heap.size w wr) (fun _ _ i _ => l.length - (intOf i).toNat)
  case atStart => exact ⟨0, 0, 0, Nat.zero_le _, rfl, rfl, rfl, Int.le_refl _, by decide, HF.out, by rw [Ht.out, lastU_zero]; simp, fun _ => ⟨by rw [lastU_zero]; omega, by rw [lastU_zero]; omega⟩, Below.refl _ _⟩
  case round =>
    obtain ⟨k, S, F, hk, rfl, rfl, rfl, hS0, hS1, hO, hTS, hFk, hb⟩ := hrel
    by_cases hlt : k < l.length
    · obtain ⟨c0, c1, c2⟩ := (hs k hlt).below hb hB
      obtain ⟨hF, hbd⟩ := hFk hlt
      rw [drop_cons l k hlt] at hO hTS
      have hlu := lastU_succ l k hlt
      clear hs hFk
      generalize hx : l[k] = s at *
      clear hx
      generalize lastU l k = bd at *
      obtain ⟨hso, hu0, hu1, hO'⟩ := hO.cons
      have hz := hb.size
      obtain ⟨u, q, p⟩ := s
      dsimp only [St.ok] at c0 c1 c2 hlu hso hu0 hu1 hO'
      obtain ⟨a1, a2, a3, a4, a5, a6⟩ := hso
      by_cases hn : n ≤ bd
      · have HT := Lib.hid (show S = T by have := totF_done _ bd n hO hn; omega)
        clear hTS hO hO' hlu hu0
        obtain rfl : F = n := by omega
        clear hF hT
        by_cases hu : u = 0
        · subst hu
          clear hu1
          go_wp2
          go_ret2
          exact ⟨priceV_yes HT.out hS1, by go_grown⟩
        · have hu2 : (u != 0) = true := by rw [bne_iff_ne]; exact hu
          have hnu : ¬ u < F := by have := hu1 hu; omega
          clear hu1
          go_wp2
          go_ret2
          exact ⟨priceV_yes HT.out hS1, by go_grown⟩
      · obtain rfl : F = bd := by omega
        have HO' := Lib.hid hO'
        have Hlu := Lib.hid hlu
        clear hF hT hO hO' hlu
        by_cases hu : u = 0
        · have hr := hu0.1 hu
          have hr' : l.length ≤ k + 1 := List.drop_eq_nil_iff.1 hr
          clear hr
          have HT := Lib.hid (price_round (x := n) _ hTS (by rw [if_neg (by simp [hu])]) (by omega))
          have HL := Lib.hid (show k + 1 < l.length → n = min n u ∧ 0 ≤ u from fun h => by omega)
          subst hu
          clear hu1 hTS hu0
          have b1 := blocks_pos (q := q) (n := n - F) a3 (by omega)
          have b2 := blocks_le (q := q) (n := n - F) a3 (by omega)
          have b3 := @gt_quo p (1125899906842624 - S) ((n - F + q - 1) / q) b1
          by_cases hp : (1125899906842624 - S) / ((n - F + q - 1) / q) < p
          · have b4 := b3.1 hp
            clear b3
            go_wp2_with fail
            generalize (n - F + q - 1) / q = B at *
            have HN := Lib.hid (show 1125899906842624 < T by have := totF_nonneg _ _ n HO'.out; have := HT.out; omega)
            go_quiet (fail)
            go_wp2
            go_ret2
            exact ⟨priceV_no HN.out, below_drewN (by go_grown) _⟩
          · have b4 : (n - F + q - 1) / q * p ≤ 1125899906842624 - S := Int.not_lt.1 (fun hh => hp (b3.2 hh))
            have b5 : 0 ≤ (n - F + q - 1) / q * p := Int.mul_nonneg (by omega) a5
            clear b3
            go_wp2_with fail
            generalize (n - F + q - 1) / q = B at *
            go_quiet (fail)
            go_wp2
            refine ⟨⟨k + 1, S + B * p, n, by omega, by go_num, rfl, rfl, by omega, by omega, by rw [Hlu.out]; exact HO'.out, by rw [Hlu.out]; exact HT.out, by rw [Hlu.out]; exact HL.out, below_drewN (by go_grown) _⟩, by simp [intOf]; omega⟩
        · have hu2 : (u != 0) = true := by rw [bne_iff_ne]; exact hu
          have hbu := hu1 hu
          by_cases hnu : u < n
          · have HT := Lib.hid (price_round (x := u) _ hTS (by rw [if_pos ⟨hu, hnu⟩]) (by omega))
            have HL := Lib.hid (show k + 1 < l.length → u = min n u ∧ 0 ≤ u from fun _ => by omega)
            clear hu1 hTS hu0 hu
            have b1 := blocks_pos (q := q) (n := u - F) a3 (by omega)
            have b2 := blocks_le (q := q) (n := u - F) a3 (by omega)
            have b3 := @gt_quo p (1125899906842624 - S) ((u - F + q - 1) / q) b1
            by_cases hp : (1125899906842624 - S) / ((u - F + q - 1) / q) < p
            · have b4 := b3.1 hp
              clear b3
              go_wp2_with fail
              generalize (u - F + q - 1) / q = B at *
              have HN := Lib.hid (show 1125899906842624 < T by have := totF_nonneg _ _ n HO'.out; have := HT.out; omega)
              go_quiet (fail)
              go_wp2
              go_ret2
              exact ⟨priceV_no HN.out, below_drewN (by go_grown) _⟩
            · have b4 : (u - F + q - 1) / q * p ≤ 1125899906842624 - S := Int.not_lt.1 (fun hh => hp (b3.2 hh))
              have b5 : 0 ≤ (u - F + q - 1) / q * p := Int.mul_nonneg (by omega) a5
              clear b3
              go_wp2_with fail
              generalize (u - F + q - 1) / q = B at *
              go_quiet (fail)
              go_wp2
              refine ⟨⟨k + 1, S + B * p, u, by omega, by go_num, rfl, rfl, by omega, by omega, by rw [Hlu.out]; exact HO'.out, by rw [Hlu.out]; exact HT.out, by rw [Hlu.out]; exact HL.out, below_drewN (by go_grown) _⟩, by simp [intOf]; omega⟩
          · have HT := Lib.hid (price_round (x := n) _ hTS (by rw [if_neg (fun h => hnu h.2)]) (by omega))
            have HL := Lib.hid (show k + 1 < l.length → n = min n u ∧ 0 ≤ u from fun _ => by omega)
            clear hu1 hTS hu0 hu
            have b1 := blocks_pos (q := q) (n := n - F) a3 (by omega)
            have b2 := blocks_le (q := q) (n := n - F) a3 (by omega)
            have b3 := @gt_quo p (1125899906842624 - S) ((n - F + q - 1) / q) b1
            by_cases hp : (1125899906842624 - S) / ((n - F + q - 1) / q) < p
            · have b4 := b3.1 hp
              clear b3
              go_wp2_with fail
              generalize (n - F + q - 1) / q = B at *
              have HN := Lib.hid (show 1125899906842624 < T by have := totF_nonneg _ _ n HO'.out; have := HT.out; omega)
              go_quiet (fail)
              go_wp2
              go_ret2
              exact ⟨priceV_no HN.out, below_drewN (by go_grown) _⟩
            · have b4 : (n - F + q - 1) / q * p ≤ 1125899906842624 - S := Int.not_lt.1 (fun hh => hp (b3.2 hh))
              have b5 : 0 ≤ (n - F + q - 1) / q * p := Int.mul_nonneg (by omega) a5
              clear b3
              go_wp2_with fail
              generalize (n - F + q - 1) / q = B at *
              go_quiet (fail)
              go_wp2
              refine ⟨⟨k + 1, S + B * p, n, by omega, by go_num, rfl, rfl, by omega, by omega, by rw [Hlu.out]; exact HO'.out, by rw [Hlu.out]; exact HT.out, by rw [Hlu.out]; exact HL.out, below_drewN (by go_grown) _⟩, by simp [intOf]; omega⟩
    · have hd : l.drop k = [] := List.drop_of_length_le (by omega)
      rw [hd] at hTS
      have HT := Lib.hid (show S = T by rw [hTS]; simp [totF])
      clear hTS hO hd hFk hT hs
      go_wp2
      go_ret2
      exact ⟨priceV_yes HT.out hS1, by go_grown⟩

/-- ladder.price of a valid ladder: the price, or that it is too great. -/
theorem price_calls (v : Value) (l : List St) (n : Int) (w : World) (h : StepsAt w v l) (hok : errL l = 0) (hn0 : 0 ≤ n) (hn1 : n ≤ 1099511627776) :
    Calls Tryd.prog 84 #[v, .int .i64 n] w fun e w' => e = .returned (priceV (tot l n)) ∧ Below w.heap.size w w' := by
  obtain ⟨av, cap, rfl, hm, hc⟩ := h
  obtain ⟨b, o, rfl, hB, hs⟩ := hc (by rintro rfl; cases hok)
  exact price_walk b o cap l n w hok hn0 hn1 hB hs
end Go.Proofs.YtohmdohbmmbbkaaDoor

namespace Go.Proofs.YtohmdohbmmbbkaaDoor
open Go.RowKit

/-- A sum that is not followed beyond the greatest amount. -/
def capA (x : Int) : Int := if 1125899906842624 < x then 1125899906842625 else x

theorem capA_add {a b : Int} (ha : 0 ≤ a) (hb : 0 ≤ b) : min (capA a + capA b) 1125899906842625 = capA (a + b) := by
  unfold capA; split <;> split <;> split <;> omega
theorem capA_bd {a : Int} (ha : 0 ≤ a) : 0 ≤ capA a ∧ capA a ≤ 1125899906842625 := by
  unfold capA; split <;> omega

set_option maxHeartbeats 400000 in
theorem inStep_calls (s : St) (b n : Int) (w : World) (h0 : 0 ≤ s.u) (h1 : s.u ≤ 1099511627776) (hb0 : 0 ≤ b) (hb1 : b ≤ 1099511627776) (hn0 : 0 ≤ n) (hn1 : n ≤ 1099511627776) :
    Calls Tryd.prog 88 #[.agg #[.int .i64 s.u, .int .i64 s.q, .int .i64 s.p], .int .i64 b, .int .i64 n] w fun e w' => e = .returned (.int .i64 (inS s b n)) ∧ Below w.heap.size w w' := by
  obtain ⟨u, q, p⟩ := s
  dsimp only at *
  by_cases hu : u = 0
  · have H := Lib.hid (show inS ⟨u, q, p⟩ b n = max 0 (n - b) by unfold inS; rw [if_neg (by simp [hu])])
    subst hu
    go_enter Tryd.func88, Tryd.ntmps88
    go_wp2
    all_goals (go_ret; exact ⟨ret_int (by rw [H.out]; omega), by go_grown⟩)
  · have hu2 : (u != 0) = true := by rw [bne_iff_ne]; exact hu
    by_cases hn : u < n
    · have H := Lib.hid (show inS ⟨u, q, p⟩ b n = max 0 (u - b) by unfold inS; rw [if_pos ⟨hu, hn⟩])
      go_enter Tryd.func88, Tryd.ntmps88
      go_wp2
      all_goals (go_ret; exact ⟨ret_int (by rw [H.out]; omega), by go_grown⟩)
    · have H := Lib.hid (show inS ⟨u, q, p⟩ b n = max 0 (n - b) by unfold inS; rw [if_neg (fun h => hn h.2)])
      go_enter Tryd.func88, Tryd.ntmps88
      go_wp2
      all_goals (go_ret; exact ⟨ret_int (by rw [H.out]; omega), by go_grown⟩)

theorem ceil_exact {q k : Int} (hq : 1 ≤ q) (h : k % q = 0) : (k + q - 1) / q = k / q := by
  have e := Int.mul_ediv_add_emod k q
  have : k + q - 1 = (q - 1) + q * (k / q) := by rw [h] at e; omega
  rw [this, Int.add_mul_ediv_left _ _ (by omega), Int.ediv_eq_zero_of_lt (by omega) (by omega)]; omega
theorem ceil_more {q k : Int} (hq : 1 ≤ q) (h : k % q ≠ 0) : (k + q - 1) / q = k / q + 1 := by
  have e := Int.mul_ediv_add_emod k q
  have h0 := Int.emod_nonneg k (b := q) (by omega)
  have h1 := Int.emod_lt_of_pos k (b := q) (by omega)
  have : k + q - 1 = (k % q - 1) + q * (k / q + 1) := by rw [Int.mul_add]; omega
  rw [this, Int.add_mul_ediv_left _ _ (by omega), Int.ediv_eq_zero_of_lt (by omega) (by omega)]; omega

set_option maxHeartbeats 400000 in
theorem cost_calls (s : St) (k : Int) (w : World) (hs : s.ok) (hk0 : 0 ≤ k) (hk1 : k ≤ 1099511627776) :
    Calls Tryd.prog 87 #[.agg #[.int .i64 s.u, .int .i64 s.q, .int .i64 s.p], .int .i64 k] w fun e w' => e = .returned (.int .i64 (capA (costS s k))) ∧ Below w.heap.size w w' := by
  obtain ⟨u, q, p⟩ := s
  obtain ⟨a1, a2, a3, a4, a5, a6⟩ := hs
  dsimp only at *
  have hm0 := Int.emod_nonneg k (b := q) (by omega)
  have hm1 := Int.emod_lt_of_pos k (b := q) (by omega)
  have hd0 : 0 ≤ k / q := Int.ediv_nonneg hk0 (by omega)
  have hd1 : k / q ≤ k := Int.ediv_le_self _ hk0
  have key : ∀ B : Int, costS ⟨u, q, p⟩ k = B * p → 0 ≤ B → capA (costS ⟨u, q, p⟩ k) = if 0 < p ∧ 1125899906842624 / p < B then 1125899906842625 else B * p := by
    intro B hB h0
    rw [hB, capA]
    by_cases hp : 0 < p
    · have := @Int.ediv_lt_iff_lt_mul 1125899906842624 B p hp
      by_cases hq : 1125899906842624 / p < B
      · rw [if_pos (this.1 hq), if_pos ⟨hp, hq⟩]
      · rw [if_neg (fun h => hq (this.2 h)), if_neg (fun h => hq h.2)]
    · have : p = 0 := by omega
      subst this
      rw [if_neg (by simp), if_neg (by simp)]
  by_cases hr : k % q = 0
  · have K := key (k / q) (by rw [costS, ceil_exact a3 hr]) hd0
    have hr2 : (k % q != 0) = false := by rw [bne_eq_false_iff_eq]; exact hr
    clear hr
    by_cases hp : 0 < p
    · by_cases hq : 1125899906842624 / p < k / q
      · rw [if_pos ⟨hp, hq⟩] at K
        have HK := Lib.hid K
        clear K key
        go_enter Tryd.func87, Tryd.ntmps87
        go_wp2
        go_ret
        exact ⟨ret_int HK.out.symm, by go_grown⟩
      · rw [if_neg (fun h => hq h.2)] at K
        have HK := Lib.hid K
        have b4 : (k / q) * p ≤ 1125899906842624 := Int.not_lt.1 (fun h => hq (Int.ediv_lt_of_lt_mul hp h))
        have b5 : 0 ≤ (k / q) * p := Int.mul_nonneg (by omega) a5
        clear K key
        go_enter Tryd.func87, Tryd.ntmps87
        go_wp2
        go_ret
        exact ⟨ret_int HK.out.symm, by go_grown⟩
    · obtain rfl : p = 0 := by omega
      rw [if_neg (by simp)] at K
      have HK := Lib.hid K
      clear K key
      go_enter Tryd.func87, Tryd.ntmps87
      go_wp2
      go_ret
      exact ⟨ret_int (by rw [HK.out]; simp), by go_grown⟩
  · have K := key (k / q + 1) (by rw [costS, ceil_more a3 hr]) (by omega)
    have hr2 : (k % q != 0) = true := by rw [bne_iff_ne]; exact hr
    have hk2 : k / q + 1 ≤ 1099511627777 := by omega
    clear hr
    by_cases hp : 0 < p
    · by_cases hq : 1125899906842624 / p < k / q + 1
      · rw [if_pos ⟨hp, hq⟩] at K
        have HK := Lib.hid K
        clear K key
        go_enter Tryd.func87, Tryd.ntmps87
        go_wp2
        go_ret
        exact ⟨ret_int HK.out.symm, by go_grown⟩
      · rw [if_neg (fun h => hq h.2)] at K
        have HK := Lib.hid K
        have b4 : (k / q + 1) * p ≤ 1125899906842624 := Int.not_lt.1 (fun h => hq (Int.ediv_lt_of_lt_mul hp h))
        have b5 : 0 ≤ (k / q + 1) * p := Int.mul_nonneg (by omega) a5
        clear K key
        go_enter Tryd.func87, Tryd.ntmps87
        go_wp2
        go_ret
        exact ⟨ret_int HK.out.symm, by go_grown⟩
    · obtain rfl : p = 0 := by omega
      rw [if_neg (by simp)] at K
      have HK := Lib.hid K
      clear K key
      go_enter Tryd.func87, Tryd.ntmps87
      go_wp2
      go_ret
      exact ⟨ret_int (by rw [HK.out]; simp), by go_grown⟩
end Go.Proofs.YtohmdohbmmbbkaaDoor
