/-
  The program's walks: a list of texts with one more and without one, a subscription after an event, and whether two are alike.
-/
import Derived.Test.YtngippiilgdnoaaGreatMgaz
import Derived.Test.YtngippiilgdnoaaGreatMgbd
namespace Go.Proofs.YtngippiilgdnoaaGreat
open Go.RowKit

/-- A list of texts in a row of the call's own. -/
def StrsOwn (N : List ByteArray) (w : World) (e : Ending) (w' : World) : Prop := ∃ (a : Option Addr) (n c : Nat), e = .returned (.slice a n c) ∧ w'.ownsRow w.heap.size 9 1 (.slice a n c) N.length (N.flatMap strCells) ∧ Below w.heap.size w w'
theorem strsOwn {N R : List ByteArray} {w w' : World} {a : Option Addr} {c : Nat} (h : w'.ownsRow w.heap.size 9 1 (.slice a R.length c) R.length (R.flatMap strCells)) (hR : R = N) (hb : Below w.heap.size w w') : StrsOwn N w (.returned (.slice a R.length c)) w' := by
  subst hR; exact ⟨a, _, c, rfl, h, hb⟩

set_option maxRecDepth 100000 in
set_option maxHeartbeats 3200000 in
theorem swith_calls (v : Value) (L : List ByteArray) (s : ByteArray) (w : World) (h : StrsAt w v L) (hp : ∀ a n c, v = .slice a n c → PlainA a) (hl : L.length ≤ 10000) :
    Calls Tryz.prog 203 #[v, .string s] w (StrsOwn (withT L s) w) := by
  have HA := Lib.hid h
  have HR := Lib.hid (rec_of_strs h)
  obtain ⟨aa, an, rfl, hla, hma, hxx⟩ := h
  have hma1 := hma.1
  unfold maxLen at hma1
  cases aa with
  | none =>
    obtain rfl := hma.2 rfl
    obtain rfl : L = [] := List.length_eq_zero_iff.1 (by omega)
    have HK := Lib.hid (show kW [] s = 0 from rfl)
    have hk : 0 ≤ ([] : List ByteArray).length := Nat.le_refl _
    obtain ⟨L, hL⟩ : ∃ L : List ByteArray, L = [] := ⟨_, rfl⟩
    have HL := Lib.hid hL
    clear hma hxx hp
    go_enter Tryz.func203, Tryz.ntmps203
    go_wp2_with fail
    go_loop [5] (fun i => i = .int .i64 0) (fun _ => 0)
    case atStart => exact rfl
    case round =>
      obtain rfl := hrel
      go_upto_region 4 with (fail)
      have hbY : Below w.heap.size w w := Below.refl _ _
      have hown0 : w.ownsRow w.heap.size 9 1 (.slice none 0 0) 0 [] := World.ownsRow_nil _ _ _ _
      have Hown0 := Lib.hid hown0
      have HbY := Lib.hid hbY
      have hbs := hbY.size
      have HT := Lib.hid (RecAt.below (sliceAt_take HR.out 0 hk : RecAt strCells 1 w _ _) hbY)
      have HD := Lib.hid (sliceAt_drop HR.out 0 hk : RecAt strCells 1 w _ _)
      have HWt := Lib.hid (show ([] : List ByteArray).take 0 ++ [s] ++ ([] : List ByteArray).drop 0 = withT [] s by unfold withT; rw [HK.out])
      obtain ⟨T, hT⟩ : ∃ T, T = ([] : List ByteArray).take 0 := ⟨_, rfl⟩
      obtain ⟨D, hD⟩ : ∃ D, D = ([] : List ByteArray).drop 0 := ⟨_, rfl⟩
      have hTb : T.length ≤ 10000 := by rw [hT, List.length_take]; omega
      have hDb : D.length ≤ 10000 := by rw [hD, List.length_drop]; omega
      rw [← hT] at HT HWt
      rw [← hD] at HD HWt
      clear hT hD hbY hown0
      go_wp2_with (at_builtin; refine append_txs rfl _ _ rfl w.heap.size hbs _ _ [] T rfl rfl Hown0.out ?hX1 ?hl1 ?_)
      case hX1 => exact HT.out
      case hl1 => first | omega | (simp; omega)
      intro P5 hP5 v5 w5 own5 hb5
      obtain rfl : T = P5 := hP5.out.symm
      clear hP5
      have Hb5 := Lib.hid (HbY.out.trans hb5)
      have Own5 := Lib.hid own5
      have hbs5 := Hb5.out.size
      obtain ⟨a5, c5, rfl, -, -⟩ := own_shape own5
      clear own5 hb5
      have HX2 := Lib.hid (RecAt.one (c := strCells) (sz := 1) w5 s 9 #[.string s] rfl)
      go_wp2_with (at_builtin; refine append_txs rfl _ _ rfl w.heap.size ?hs2 _ _ T [s] rfl rfl (Own5.out.alloc _) HX2.out ?hl2 ?_)
      case hs2 => simp; omega
      case hl2 => simp; omega
      intro R6 hR6 v6 w6 own6 hb6
      have Hb6 := Lib.hid ((Hb5.out.alloc hbs5 (Obj.cells #[.string s] 9)).trans hb6)
      have HR6 := Lib.hid hR6.out
      have hR6l : R6.length ≤ 10001 := by rw [hR6.out, List.length_append, List.length_singleton]; omega
      have hbs6 := Hb6.out.size
      obtain ⟨a6, c6, rfl, -, -⟩ := own_shape own6
      have Own6 := Lib.hid own6
      clear own6 hb6 hR6
      have HD := Lib.hid (RecAt.below HD.out Hb6.out)
      have HF := Lib.hid (fun (R : List ByteArray) (h : R = R6 ++ D) => (h.trans (by rw [HR6.out, HWt.out]) : R = withT [] s))
      go_wp2_with (at_builtin; refine append_txs rfl _ _ rfl w.heap.size ?hs3 _ _ R6 D rfl rfl Own6.out ?hX3 ?hl3 ?_)
      case hs3 => exact hbs6
      case hX3 => exact HD.out
      case hl3 => omega
      intro R hR v7 w7 own7 hb7
      have Hb7 := Lib.hid (Hb6.out.trans hb7)
      have HRe := Lib.hid (HF.out R hR.out)
      obtain ⟨a7, c7, rfl, -, -⟩ := own_shape own7
      have Own7 := Lib.hid own7
      clear own7 hb7 hR
      go_wp2
      go_ret
      exact strsOwn Own7.out HRe.out Hb7.out
  | some ad =>
    obtain ⟨ab, ao, asp⟩ := ad
    obtain rfl : asp = none := hp _ _ _ rfl _ rfl
    clear hma hxx hp
    go_enter Tryz.func203, Tryz.ntmps203
    go_wp2_with fail
    go_loop [5] (fun i => ∃ k : Nat, k ≤ L.length ∧ i = .int .i64 k ∧ ∀ j (hj : j < L.length), j < k → Op.bytesLess L[j].toList s.toList = true) (fun i => L.length - (intOf i).toNat)
    case atStart => exact ⟨0, Nat.zero_le _, rfl, fun j _ h => by omega⟩
    case round =>
      obtain ⟨k, hk, rfl, hno⟩ := hrel
      have Hno := Lib.hid hno
      clear hno
      have hk0 : (0 : Int) ≤ (k : Int) := Int.natCast_nonneg _
      by_cases hlt : k < L.length
      · have hk1 : (k : Int) < (L.length : Int) := by omega
        obtain ⟨a2, n2, e2, -, -, hx⟩ := HA.out
        cases e2
        obtain ⟨bb, o, e3, hB, hx⟩ := hx (by rintro rfl; cases hlt)
        cases e3
        obtain ⟨x0, -⟩ := hx k hlt
        rw [Nat.mul_one] at x0
        clear hx
        cases hb : Op.bytesLess L[k].toList s.toList with
        | true =>
          have HNx := Lib.hid (show ∀ j (hj : j < L.length), j < k + 1 → Op.bytesLess L[j].toList s.toList = true from fun j hj hjk => by
            by_cases h : j = k
            · subst h; exact hb
            · exact Hno.out j hj (by omega))
          generalize L[k] = a at *
          go_wp2
          exact ⟨⟨k + 1, by omega, by go_num, HNx.out⟩, by simp [intOf]; omega⟩
        | false =>
          have HK := Lib.hid (kW_at hlt (fun j hj => Hno.out j (by omega) hj) hb)
          have Hlt := Lib.hid hlt
          generalize L[k] = a at *
          go_upto_region 4 with (fail)
          have hbY : Below w.heap.size w w := Below.refl _ _
          have hown0 : w.ownsRow w.heap.size 9 1 (.slice none 0 0) 0 [] := World.ownsRow_nil _ _ _ _
          have Hown0 := Lib.hid hown0
          have HbY := Lib.hid hbY
          have hbs := hbY.size
          have HT := Lib.hid (RecAt.below (sliceAt_take HR.out k hk : RecAt strCells 1 w _ _) hbY)
          have HD := Lib.hid (sliceAt_drop HR.out k hk : RecAt strCells 1 w _ _)
          have HWt := Lib.hid (show L.take k ++ [s] ++ L.drop k = withT L s by unfold withT; rw [HK.out])
          obtain ⟨T, hT⟩ : ∃ T, T = L.take k := ⟨_, rfl⟩
          obtain ⟨D, hD⟩ : ∃ D, D = L.drop k := ⟨_, rfl⟩
          have hTb : T.length ≤ 10000 := by rw [hT, List.length_take]; omega
          have hDb : D.length ≤ 10000 := by rw [hD, List.length_drop]; omega
          rw [← hT] at HT HWt
          rw [← hD] at HD HWt
          clear hT hD hbY hown0
          go_wp2_with (at_builtin; refine append_txs rfl _ _ rfl w.heap.size hbs _ _ [] T rfl rfl Hown0.out ?hX1 ?hl1 ?_)
          case hX1 => exact HT.out
          case hl1 => first | omega | (simp; omega)
          intro P5 hP5 v5 w5 own5 hb5
          obtain rfl : T = P5 := hP5.out.symm
          clear hP5
          have Hb5 := Lib.hid (HbY.out.trans hb5)
          have Own5 := Lib.hid own5
          have hbs5 := Hb5.out.size
          obtain ⟨a5, c5, rfl, -, -⟩ := own_shape own5
          clear own5 hb5
          have HX2 := Lib.hid (RecAt.one (c := strCells) (sz := 1) w5 s 9 #[.string s] rfl)
          go_wp2_with (at_builtin; refine append_txs rfl _ _ rfl w.heap.size ?hs2 _ _ T [s] rfl rfl (Own5.out.alloc _) HX2.out ?hl2 ?_)
          case hs2 => simp; omega
          case hl2 => simp; omega
          intro R6 hR6 v6 w6 own6 hb6
          have Hb6 := Lib.hid ((Hb5.out.alloc hbs5 (Obj.cells #[.string s] 9)).trans hb6)
          have HR6 := Lib.hid hR6.out
          have hR6l : R6.length ≤ 10001 := by rw [hR6.out, List.length_append, List.length_singleton]; omega
          have hbs6 := Hb6.out.size
          obtain ⟨a6, c6, rfl, -, -⟩ := own_shape own6
          have Own6 := Lib.hid own6
          clear own6 hb6 hR6
          have HD := Lib.hid (RecAt.below HD.out Hb6.out)
          have HF := Lib.hid (fun (R : List ByteArray) (h : R = R6 ++ D) => (h.trans (by rw [HR6.out, HWt.out]) : R = withT L s))
          by_cases hco : an = k
          · have HD := Lib.hid (show RecAt strCells 1 w6 (.slice (some ⟨ab, ao, none⟩) (L.length - k) 0) D by
              have h := HD.out
              rw [if_pos hco, hco, Nat.sub_self] at h
              exact h)
            go_wp2_with (at_builtin; refine append_txs rfl _ _ rfl w.heap.size ?hs3 _ _ R6 D rfl rfl Own6.out ?hX3 ?hl3 ?_)
            case hs3 => exact hbs6
            case hX3 => exact HD.out
            case hl3 => omega
            intro R hR v7 w7 own7 hb7
            have Hb7 := Lib.hid (Hb6.out.trans hb7)
            have HRe := Lib.hid (HF.out R hR.out)
            obtain ⟨a7, c7, rfl, -, -⟩ := own_shape own7
            have Own7 := Lib.hid own7
            clear own7 hb7 hR
            go_wp2
            go_ret
            exact strsOwn Own7.out HRe.out Hb7.out
          · have HD := Lib.hid (show RecAt strCells 1 w6 (.slice (some ⟨ab, ao + k, none⟩) (L.length - k) (an - k)) D by
              have h := HD.out
              rw [if_neg hco, Option.map_some, addr_at, Nat.mul_one] at h
              exact h)
            go_wp2_with (at_builtin; refine append_txs rfl _ _ rfl w.heap.size ?hs3 _ _ R6 D rfl rfl Own6.out ?hX3 ?hl3 ?_)
            case hs3 => exact hbs6
            case hX3 => exact HD.out
            case hl3 => omega
            intro R hR v7 w7 own7 hb7
            have Hb7 := Lib.hid (Hb6.out.trans hb7)
            have HRe := Lib.hid (HF.out R hR.out)
            obtain ⟨a7, c7, rfl, -, -⟩ := own_shape own7
            have Own7 := Lib.hid own7
            clear own7 hb7 hR
            go_wp2
            go_ret
            exact strsOwn Own7.out HRe.out Hb7.out
      · have HK := Lib.hid (show kW L s = k by rw [kW_all (s := s) (fun j hj => Hno.out j hj (by omega))]; omega)
        have hkL : k = L.length := by omega
        have hnlt : ¬ (k : Int) < (L.length : Int) := by omega
        clear hkL
        go_upto_region 4 with (fail)
        have hbY : Below w.heap.size w w := Below.refl _ _
        have hown0 : w.ownsRow w.heap.size 9 1 (.slice none 0 0) 0 [] := World.ownsRow_nil _ _ _ _
        have Hown0 := Lib.hid hown0
        have HbY := Lib.hid hbY
        have hbs := hbY.size
        have HT := Lib.hid (RecAt.below (sliceAt_take HR.out k hk : RecAt strCells 1 w _ _) hbY)
        have HD := Lib.hid (sliceAt_drop HR.out k hk : RecAt strCells 1 w _ _)
        have HWt := Lib.hid (show L.take k ++ [s] ++ L.drop k = withT L s by unfold withT; rw [HK.out])
        obtain ⟨T, hT⟩ : ∃ T, T = L.take k := ⟨_, rfl⟩
        obtain ⟨D, hD⟩ : ∃ D, D = L.drop k := ⟨_, rfl⟩
        have hTb : T.length ≤ 10000 := by rw [hT, List.length_take]; omega
        have hDb : D.length ≤ 10000 := by rw [hD, List.length_drop]; omega
        rw [← hT] at HT HWt
        rw [← hD] at HD HWt
        clear hT hD hbY hown0
        go_wp2_with (at_builtin; refine append_txs rfl _ _ rfl w.heap.size hbs _ _ [] T rfl rfl Hown0.out ?hX1 ?hl1 ?_)
        case hX1 => exact HT.out
        case hl1 => first | omega | (simp; omega)
        intro P5 hP5 v5 w5 own5 hb5
        obtain rfl : T = P5 := hP5.out.symm
        clear hP5
        have Hb5 := Lib.hid (HbY.out.trans hb5)
        have Own5 := Lib.hid own5
        have hbs5 := Hb5.out.size
        obtain ⟨a5, c5, rfl, -, -⟩ := own_shape own5
        clear own5 hb5
        have HX2 := Lib.hid (RecAt.one (c := strCells) (sz := 1) w5 s 9 #[.string s] rfl)
        go_wp2_with (at_builtin; refine append_txs rfl _ _ rfl w.heap.size ?hs2 _ _ T [s] rfl rfl (Own5.out.alloc _) HX2.out ?hl2 ?_)
        case hs2 => simp; omega
        case hl2 => simp; omega
        intro R6 hR6 v6 w6 own6 hb6
        have Hb6 := Lib.hid ((Hb5.out.alloc hbs5 (Obj.cells #[.string s] 9)).trans hb6)
        have HR6 := Lib.hid hR6.out
        have hR6l : R6.length ≤ 10001 := by rw [hR6.out, List.length_append, List.length_singleton]; omega
        have hbs6 := Hb6.out.size
        obtain ⟨a6, c6, rfl, -, -⟩ := own_shape own6
        have Own6 := Lib.hid own6
        clear own6 hb6 hR6
        have HD := Lib.hid (RecAt.below HD.out Hb6.out)
        have HF := Lib.hid (fun (R : List ByteArray) (h : R = R6 ++ D) => (h.trans (by rw [HR6.out, HWt.out]) : R = withT L s))
        by_cases hco : an = k
        · have HD := Lib.hid (show RecAt strCells 1 w6 (.slice (some ⟨ab, ao, none⟩) (L.length - k) 0) D by
            have h := HD.out
            rw [if_pos hco, hco, Nat.sub_self] at h
            exact h)
          go_wp2_with (at_builtin; refine append_txs rfl _ _ rfl w.heap.size ?hs3 _ _ R6 D rfl rfl Own6.out ?hX3 ?hl3 ?_)
          case hs3 => exact hbs6
          case hX3 => exact HD.out
          case hl3 => omega
          intro R hR v7 w7 own7 hb7
          have Hb7 := Lib.hid (Hb6.out.trans hb7)
          have HRe := Lib.hid (HF.out R hR.out)
          obtain ⟨a7, c7, rfl, -, -⟩ := own_shape own7
          have Own7 := Lib.hid own7
          clear own7 hb7 hR
          go_wp2
          go_ret
          exact strsOwn Own7.out HRe.out Hb7.out
        · have HD := Lib.hid (show RecAt strCells 1 w6 (.slice (some ⟨ab, ao + k, none⟩) (L.length - k) (an - k)) D by
            have h := HD.out
            rw [if_neg hco, Option.map_some, addr_at, Nat.mul_one] at h
            exact h)
          go_wp2_with (at_builtin; refine append_txs rfl _ _ rfl w.heap.size ?hs3 _ _ R6 D rfl rfl Own6.out ?hX3 ?hl3 ?_)
          case hs3 => exact hbs6
          case hX3 => exact HD.out
          case hl3 => omega
          intro R hR v7 w7 own7 hb7
          have Hb7 := Lib.hid (Hb6.out.trans hb7)
          have HRe := Lib.hid (HF.out R hR.out)
          obtain ⟨a7, c7, rfl, -, -⟩ := own_shape own7
          have Own7 := Lib.hid own7
          clear own7 hb7 hR
          go_wp2
          go_ret
          exact strsOwn Own7.out HRe.out Hb7.out

set_option maxRecDepth 100000 in
set_option maxHeartbeats 3200000 in
theorem swithout_calls (v : Value) (L : List ByteArray) (s : ByteArray) (w : World) (h : StrsAt w v L) (hl : L.length ≤ 10000) :
    Calls Tryz.prog 204 #[v, .string s] w (StrsOwn (withoutT L s) w) := by
  have HA := Lib.hid h
  have HLe := Lib.hid (fun k => withoutT_len (L.take k) s)
  obtain ⟨aa, an, rfl, hla, hma, -⟩ := h
  have hma := hma.1
  unfold maxLen at hma
  go_enter Tryz.func204, Tryz.ntmps204
  go_wp2_with fail
  go_loopw [5, 10] (fun vo i wr => ∃ k : Nat, k ≤ L.length ∧ i = .int .i64 k ∧ wr.ownsRow w.heap.size 9 1 vo (withoutT (L.take k) s).length ((withoutT (L.take k) s).flatMap strCells) ∧ Below w.heap.size w wr) (fun _ i _ => L.length - (intOf i).toNat)
  case atStart => exact ⟨0, Nat.zero_le _, rfl, World.ownsRow_nil _ _ _ _, Below.refl _ _⟩
  case round =>
    obtain ⟨wo, rfl⟩ : ∃ wo : World, wo = wr := ⟨_, rfl⟩
    obtain ⟨k, hk, rfl, hown, hb⟩ := hrel
    obtain ⟨ao, co, rfl, hco, hcm⟩ := own_shape hown
    have Hown := Lib.hid hown
    have Hb := Lib.hid hb
    have hlk := HLe.out k
    rw [List.length_take] at hlk
    by_cases hlt : k < L.length
    · have hk1 : (k : Int) < (L.length : Int) := by omega
      have hk0 : (0 : Int) ≤ (k : Int) := Int.natCast_nonneg _
      have HS := Lib.hid (withoutT_take L s k hlt)
      obtain ⟨a2, n2, e2, -, -, hx⟩ := HA.out.below hb
      cases e2
      obtain ⟨bb, o, rfl, hB, hx⟩ := hx (by rintro rfl; cases hlt)
      obtain ⟨x0, -⟩ := hx k hlt
      rw [Nat.mul_one] at x0
      clear hx hb hown
      obtain ⟨R, hR⟩ : ∃ R, R = withoutT (L.take k) s := ⟨_, rfl⟩
      rw [← hR] at HS Hown hlk hco ⊢
      clear hR
      generalize L[k] = a at *
      have hRb : R.length ≤ 10000 := by omega
      cases hq : sameS a s with
      | true =>
        have HE := Lib.hid (HS.out.trans (if_pos hq))
        have hq1 : (a.toList == s.toList) = true := hq
        have hq2 : (a.toList != s.toList) = false := by rw [bne, hq1]; rfl
        clear hq
        go_wp2
        exact ⟨⟨k + 1, by omega, by go_num, by rw [HE.out]; exact Hown.out, Hb.out⟩, by simp [intOf]; omega⟩
      | false =>
        have HE := Lib.hid (HS.out.trans (if_neg (by rw [hq]; decide)))
        have hq1 : (a.toList == s.toList) = false := hq
        have hq2 : (a.toList != s.toList) = true := by rw [bne, hq1]; rfl
        have hbs := Hb.out.size
        have HX := Lib.hid (RecAt.one (c := strCells) (sz := 1) wo a 9 #[.string a] rfl)
        clear hq
        go_wp2_with (at_builtin; refine append_txs rfl _ _ rfl w.heap.size ?hs1 _ _ R [a] rfl rfl (Hown.out.alloc _) HX.out ?hl1 ?_)
        case hs1 => simp; omega
        case hl1 => simp; omega
        intro R2 hR2 v4 w4 own4 hb4
        have Hb4 := Lib.hid ((Hb.out.alloc hbs (Obj.cells #[.string a] 9)).trans hb4)
        have Own4 := Lib.hid own4
        have HR := Lib.hid (hR2.out.trans HE.out.symm)
        clear own4 hb4 hR2
        go_wp2
        exact ⟨⟨k + 1, by omega, by go_num, by rw [← HR.out]; exact Own4.out, Hb4.out⟩, by simp [intOf]; omega⟩
    · have HE := Lib.hid (show withoutT (L.take k) s = withoutT L s by rw [List.take_of_length_le (by omega)])
      clear hb hown hlk
      obtain ⟨R, hR⟩ : ∃ R, R = withoutT (L.take k) s := ⟨_, rfl⟩
      rw [← hR] at HE Hown hco ⊢
      clear hR
      go_wp2
      go_ret
      exact strsOwn Hown.out HE.out Hb.out

/-- A subscription in memory, its products in a row of the call's own. -/
structure SbO (base : Nat) (w : World) (x : SbX) : Prop where
  row : w.ownsRow base 9 1 (.slice x.pa x.pn x.pc) x.s.prs.length (x.s.prs.flatMap strCells)
  na : x.na = none
  nn : x.nn = 0
  nc : x.nc = 0
  nus : x.s.nus = []
  plan : x.s.plan.size ≤ maxLen
  sizes : ∀ p ∈ x.s.prs, p.size ≤ maxLen
theorem SbO.below {base : Nat} {w w' : World} {x : SbX} (h : SbO base w x) (hb : Below w.heap.size w w') : SbO base w' x := ⟨ownsRow_below h.row hb, h.na, h.nn, h.nc, h.nus, h.plan, h.sizes⟩
theorem SbO.strs {base : Nat} {w : World} {x : SbX} (h : SbO base w x) : StrsAt w (.slice x.pa x.pn x.pc) x.s.prs := strs_of_rec (RecAt.own (fun _ => rfl) h.row) h.sizes
theorem SbO.plain {base : Nat} {w : World} {x : SbX} (h : SbO base w x) : PlainA x.pa := (own_fresh h.row).plain
def NxTo (base : Nat) (s : Sb) (w : World) (e : Ending) (w' : World) : Prop := ∃ x : SbX, e = .returned (sbVal x) ∧ x.s = s ∧ SbO base w' x ∧ Below w.heap.size w w'
theorem nxTo {base : Nat} {s : Sb} {w w' : World} {i1 i2 i3 : Int} {i4 : ByteArray} {prs : List ByteArray} {su fa : Bool} {pa : Option Addr} {pn pc : Nat} (h : (⟨i1, i2, i3, i4, [], prs, su, fa⟩ : Sb) = s)
    (h1 : w'.ownsRow base 9 1 (.slice pa pn pc) prs.length (prs.flatMap strCells)) (h2 : i4.size ≤ maxLen) (h3 : ∀ p ∈ prs, p.size ≤ maxLen) (hb : Below w.heap.size w w') :
    NxTo base s w (.returned (.agg #[.int .i64 i1, .int .i64 i2, .int .i64 i3, .string i4, .slice none 0 0, .slice pa pn pc, .bool su, .bool fa])) w' :=
  ⟨⟨⟨i1, i2, i3, i4, [], prs, su, fa⟩, none, 0, 0, pa, pn, pc⟩, rfl, h, ⟨h1, rfl, rfl, rfl, rfl, h2, h3⟩, hb⟩

set_option maxRecDepth 100000 in
set_option maxHeartbeats 6400000 in
theorem next_3 (base : Nat) (x : SbX) (ev : Ev) (w : World) (hk : ev.kd = 3) (h : SbO base w x) (hbs : base ≤ w.heap.size) (hm : ev.nm.size ≤ maxLen) (h2 : x.s.prs.length ≤ 10000) :
    Calls Tryz.prog 193 #[sbVal x, evVal ev] w (NxTo base (nextS x.s ev) w) := by
  have HSt := Lib.hid h.strs
  have HPl := Lib.hid h.plain
  obtain ⟨⟨i1, i2, i3, i4, nus, prs, su, fa⟩, na, nn, nc, pa, pn, pc⟩ := x
  obtain ⟨tm, kd, ac, sb, nu, nm, vl⟩ := ev
  obtain ⟨g1, g2, g3, g4, g5, g6, g7⟩ := h
  dsimp only at hk hm h2 HSt HPl g1 g2 g3 g4 g5 g6 g7
  subst g2 g3 g4 g5
  subst hk
  have HCh := Lib.hid (show (⟨sb, ac, tm, nm, [], [], false, false⟩ : Sb) = nextS ⟨i1, i2, i3, i4, [], prs, su, fa⟩ ⟨tm, 3, ac, sb, nu, nm, vl⟩ from rfl)
  obtain ⟨W, hW, r0, r1, r2, hw0, hz⟩ := three_rows w (Obj.cells #[.int .i64 i1, .int .i64 i2, .int .i64 i3, .string i4, .slice none 0 0, .slice pa pn pc, .bool su, .bool fa] 181) (Obj.cells #[.int .i64 tm, .int .i64 3, .int .i64 ac, .int .i64 sb, .string nu, .string nm, .int .i64 vl] 55) (Obj.cells #[.int .i64 0, .int .i64 0, .int .i64 0, .string ⟨#[]⟩, .slice none 0 0, .slice none 0 0, .bool false, .bool false] 181)
  have T1 := Lib.hid g1
  have T6 := Lib.hid (And.intro g6 (And.intro g7 (And.intro hm hbs)))
  have HS2 := Lib.hid (HSt.out.below hw0)
  unfold sbVal evVal
  dsimp only
  have HW := Lib.hid hW
  have Hw0 := Lib.hid hw0
  have R0 := Lib.hid r0
  have R1 := Lib.hid r1
  have R2 := Lib.hid r2
  have a0 := cell_of_row W _ 0 _ _ _ R0.out
  have a1 := cell_of_row W _ 1 _ _ _ R0.out
  have a2 := cell_of_row W _ 2 _ _ _ R0.out
  have a3 := cell_of_row W _ 3 _ _ _ R0.out
  have a4 := cell_of_row W _ 4 _ _ _ R0.out
  have a5 := cell_of_row W _ 5 _ _ _ R0.out
  have a6 := cell_of_row W _ 6 _ _ _ R0.out
  have a7 := cell_of_row W _ 7 _ _ _ R0.out
  have b0 := cell_of_row W _ 0 _ _ _ R1.out
  have b1 := cell_of_row W _ 1 _ _ _ R1.out
  have b2 := cell_of_row W _ 2 _ _ _ R1.out
  have b3 := cell_of_row W _ 3 _ _ _ R1.out
  have b5 := cell_of_row W _ 5 _ _ _ R1.out
  have f3 := frozen_of_row W _ 3 _ _ R0.out
  have f4 := frozen_of_row W _ 4 _ _ R0.out
  have f5 := frozen_of_row W _ 5 _ _ R0.out
  have f6 := frozen_of_row W _ 6 _ _ R0.out
  have f7 := frozen_of_row W _ 7 _ _ R0.out
  clear hW r0 r1 r2 hw0 g1 g6 g7 hm hbs
  go_enter Tryz.func193, Tryz.ntmps193
  go_upto_region 1 with (fail)
  rw [← HW.out]
  have HbF := Lib.hid (below_setRow1 Hw0.out (show w.heap.size ≤ w.heap.size + 1 + 1 by omega) #[.int .i64 sb, .int .i64 ac, .int .i64 tm, .string nm, .slice none 0 0, .slice none 0 0, .bool false, .bool false])
  have t0 := cell_setRow_same W (w.heap.size + 1 + 1) 0 _ #[.int .i64 sb, .int .i64 ac, .int .i64 tm, .string nm, .slice none 0 0, .slice none 0 0, .bool false, .bool false] _ _ R2.out
  have t1 := cell_setRow_same W (w.heap.size + 1 + 1) 1 _ #[.int .i64 sb, .int .i64 ac, .int .i64 tm, .string nm, .slice none 0 0, .slice none 0 0, .bool false, .bool false] _ _ R2.out
  have t2 := cell_setRow_same W (w.heap.size + 1 + 1) 2 _ #[.int .i64 sb, .int .i64 ac, .int .i64 tm, .string nm, .slice none 0 0, .slice none 0 0, .bool false, .bool false] _ _ R2.out
  have t3 := cell_setRow_same W (w.heap.size + 1 + 1) 3 _ #[.int .i64 sb, .int .i64 ac, .int .i64 tm, .string nm, .slice none 0 0, .slice none 0 0, .bool false, .bool false] _ _ R2.out
  have t4 := cell_setRow_same W (w.heap.size + 1 + 1) 4 _ #[.int .i64 sb, .int .i64 ac, .int .i64 tm, .string nm, .slice none 0 0, .slice none 0 0, .bool false, .bool false] _ _ R2.out
  have t5 := cell_setRow_same W (w.heap.size + 1 + 1) 5 _ #[.int .i64 sb, .int .i64 ac, .int .i64 tm, .string nm, .slice none 0 0, .slice none 0 0, .bool false, .bool false] _ _ R2.out
  have t6 := cell_setRow_same W (w.heap.size + 1 + 1) 6 _ #[.int .i64 sb, .int .i64 ac, .int .i64 tm, .string nm, .slice none 0 0, .slice none 0 0, .bool false, .bool false] _ _ R2.out
  have t7 := cell_setRow_same W (w.heap.size + 1 + 1) 7 _ #[.int .i64 sb, .int .i64 ac, .int .i64 tm, .string nm, .slice none 0 0, .slice none 0 0, .bool false, .bool false] _ _ R2.out
  repeat (first | refine wpList_store_row rfl _ _ _ rfl (w.heap.size + 1 + 1) #[.int .i64 sb, .int .i64 ac, .int .i64 tm, .string nm, .slice none 0 0, .slice none 0 0, .bool false, .bool false] rfl rfl 181 _ R2.out (by kernel_rfl) rfl (by simp [Value.oneCell']) ?_ | go_step)
  refine bodyPost_ret (v := .agg #[.int .i64 sb, .int .i64 ac, .int .i64 tm, .string nm, .slice none 0 0, .slice none 0 0, .bool false, .bool false]) (by simp [results, Tryz.results193, go_sem, t0, t1, t2, t3, t4, t5, t6, t7]) rfl ?_
  exact nxTo HCh.out (World.ownsRow_nil _ _ _ _) T6.out.2.2.1 (fun _ h => by cases h) HbF.out

set_option maxRecDepth 100000 in
set_option maxHeartbeats 6400000 in
theorem next_4 (base : Nat) (x : SbX) (ev : Ev) (w : World) (hk : ev.kd = 4) (h : SbO base w x) (hbs : base ≤ w.heap.size) (hm : ev.nm.size ≤ maxLen) (h2 : x.s.prs.length ≤ 10000) :
    Calls Tryz.prog 193 #[sbVal x, evVal ev] w (NxTo base (nextS x.s ev) w) := by
  have HSt := Lib.hid h.strs
  have HPl := Lib.hid h.plain
  obtain ⟨⟨i1, i2, i3, i4, nus, prs, su, fa⟩, na, nn, nc, pa, pn, pc⟩ := x
  obtain ⟨tm, kd, ac, sb, nu, nm, vl⟩ := ev
  obtain ⟨g1, g2, g3, g4, g5, g6, g7⟩ := h
  dsimp only at hk hm h2 HSt HPl g1 g2 g3 g4 g5 g6 g7
  subst g2 g3 g4 g5
  subst hk
  have HCh := Lib.hid (show (⟨0, 0, 0, ⟨#[]⟩, [], [], false, false⟩ : Sb) = nextS ⟨i1, i2, i3, i4, [], prs, su, fa⟩ ⟨tm, 4, ac, sb, nu, nm, vl⟩ from rfl)
  obtain ⟨W, hW, r0, r1, r2, hw0, hz⟩ := three_rows w (Obj.cells #[.int .i64 i1, .int .i64 i2, .int .i64 i3, .string i4, .slice none 0 0, .slice pa pn pc, .bool su, .bool fa] 181) (Obj.cells #[.int .i64 tm, .int .i64 4, .int .i64 ac, .int .i64 sb, .string nu, .string nm, .int .i64 vl] 55) (Obj.cells #[.int .i64 0, .int .i64 0, .int .i64 0, .string ⟨#[]⟩, .slice none 0 0, .slice none 0 0, .bool false, .bool false] 181)
  have T1 := Lib.hid g1
  have T6 := Lib.hid (And.intro g6 (And.intro g7 (And.intro hm hbs)))
  have HS2 := Lib.hid (HSt.out.below hw0)
  unfold sbVal evVal
  dsimp only
  have HW := Lib.hid hW
  have Hw0 := Lib.hid hw0
  have R0 := Lib.hid r0
  have R1 := Lib.hid r1
  have R2 := Lib.hid r2
  have a0 := cell_of_row W _ 0 _ _ _ R0.out
  have a1 := cell_of_row W _ 1 _ _ _ R0.out
  have a2 := cell_of_row W _ 2 _ _ _ R0.out
  have a3 := cell_of_row W _ 3 _ _ _ R0.out
  have a4 := cell_of_row W _ 4 _ _ _ R0.out
  have a5 := cell_of_row W _ 5 _ _ _ R0.out
  have a6 := cell_of_row W _ 6 _ _ _ R0.out
  have a7 := cell_of_row W _ 7 _ _ _ R0.out
  have b0 := cell_of_row W _ 0 _ _ _ R1.out
  have b1 := cell_of_row W _ 1 _ _ _ R1.out
  have b2 := cell_of_row W _ 2 _ _ _ R1.out
  have b3 := cell_of_row W _ 3 _ _ _ R1.out
  have b5 := cell_of_row W _ 5 _ _ _ R1.out
  have f3 := frozen_of_row W _ 3 _ _ R0.out
  have f4 := frozen_of_row W _ 4 _ _ R0.out
  have f5 := frozen_of_row W _ 5 _ _ R0.out
  have f6 := frozen_of_row W _ 6 _ _ R0.out
  have f7 := frozen_of_row W _ 7 _ _ R0.out
  clear hW r0 r1 r2 hw0 g1 g6 g7 hm hbs
  go_enter Tryz.func193, Tryz.ntmps193
  go_upto_region 1 with (fail)
  rw [← HW.out]
  have HbF := Lib.hid (below_setRow1 Hw0.out (show w.heap.size ≤ w.heap.size + 1 + 1 by omega) #[.int .i64 0, .int .i64 0, .int .i64 0, .string ⟨#[]⟩, .slice none 0 0, .slice none 0 0, .bool false, .bool false])
  have t0 := cell_setRow_same W (w.heap.size + 1 + 1) 0 _ #[.int .i64 0, .int .i64 0, .int .i64 0, .string ⟨#[]⟩, .slice none 0 0, .slice none 0 0, .bool false, .bool false] _ _ R2.out
  have t1 := cell_setRow_same W (w.heap.size + 1 + 1) 1 _ #[.int .i64 0, .int .i64 0, .int .i64 0, .string ⟨#[]⟩, .slice none 0 0, .slice none 0 0, .bool false, .bool false] _ _ R2.out
  have t2 := cell_setRow_same W (w.heap.size + 1 + 1) 2 _ #[.int .i64 0, .int .i64 0, .int .i64 0, .string ⟨#[]⟩, .slice none 0 0, .slice none 0 0, .bool false, .bool false] _ _ R2.out
  have t3 := cell_setRow_same W (w.heap.size + 1 + 1) 3 _ #[.int .i64 0, .int .i64 0, .int .i64 0, .string ⟨#[]⟩, .slice none 0 0, .slice none 0 0, .bool false, .bool false] _ _ R2.out
  have t4 := cell_setRow_same W (w.heap.size + 1 + 1) 4 _ #[.int .i64 0, .int .i64 0, .int .i64 0, .string ⟨#[]⟩, .slice none 0 0, .slice none 0 0, .bool false, .bool false] _ _ R2.out
  have t5 := cell_setRow_same W (w.heap.size + 1 + 1) 5 _ #[.int .i64 0, .int .i64 0, .int .i64 0, .string ⟨#[]⟩, .slice none 0 0, .slice none 0 0, .bool false, .bool false] _ _ R2.out
  have t6 := cell_setRow_same W (w.heap.size + 1 + 1) 6 _ #[.int .i64 0, .int .i64 0, .int .i64 0, .string ⟨#[]⟩, .slice none 0 0, .slice none 0 0, .bool false, .bool false] _ _ R2.out
  have t7 := cell_setRow_same W (w.heap.size + 1 + 1) 7 _ #[.int .i64 0, .int .i64 0, .int .i64 0, .string ⟨#[]⟩, .slice none 0 0, .slice none 0 0, .bool false, .bool false] _ _ R2.out
  repeat (first | refine wpList_store_row rfl _ _ _ rfl (w.heap.size + 1 + 1) #[.int .i64 0, .int .i64 0, .int .i64 0, .string ⟨#[]⟩, .slice none 0 0, .slice none 0 0, .bool false, .bool false] rfl rfl 181 _ R2.out (by kernel_rfl) rfl (by simp [Value.oneCell']) ?_ | go_step)
  refine bodyPost_ret (v := .agg #[.int .i64 0, .int .i64 0, .int .i64 0, .string ⟨#[]⟩, .slice none 0 0, .slice none 0 0, .bool false, .bool false]) (by simp [results, Tryz.results193, go_sem, t0, t1, t2, t3, t4, t5, t6, t7]) rfl ?_
  exact nxTo HCh.out (World.ownsRow_nil _ _ _ _) (Nat.zero_le _) (fun _ h => by cases h) HbF.out

set_option maxRecDepth 100000 in
set_option maxHeartbeats 6400000 in
theorem next_7 (base : Nat) (x : SbX) (ev : Ev) (w : World) (hk : ev.kd = 7) (h : SbO base w x) (hbs : base ≤ w.heap.size) (hm : ev.nm.size ≤ maxLen) (h2 : x.s.prs.length ≤ 10000) :
    Calls Tryz.prog 193 #[sbVal x, evVal ev] w (NxTo base (nextS x.s ev) w) := by
  have HSt := Lib.hid h.strs
  have HPl := Lib.hid h.plain
  obtain ⟨⟨i1, i2, i3, i4, nus, prs, su, fa⟩, na, nn, nc, pa, pn, pc⟩ := x
  obtain ⟨tm, kd, ac, sb, nu, nm, vl⟩ := ev
  obtain ⟨g1, g2, g3, g4, g5, g6, g7⟩ := h
  dsimp only at hk hm h2 HSt HPl g1 g2 g3 g4 g5 g6 g7
  subst g2 g3 g4 g5
  subst hk
  have HCh := Lib.hid (show (⟨i1, i2, i3, nm, [], prs, su, fa⟩ : Sb) = nextS ⟨i1, i2, i3, i4, [], prs, su, fa⟩ ⟨tm, 7, ac, sb, nu, nm, vl⟩ from rfl)
  obtain ⟨W, hW, r0, r1, r2, hw0, hz⟩ := three_rows w (Obj.cells #[.int .i64 i1, .int .i64 i2, .int .i64 i3, .string i4, .slice none 0 0, .slice pa pn pc, .bool su, .bool fa] 181) (Obj.cells #[.int .i64 tm, .int .i64 7, .int .i64 ac, .int .i64 sb, .string nu, .string nm, .int .i64 vl] 55) (Obj.cells #[.int .i64 0, .int .i64 0, .int .i64 0, .string ⟨#[]⟩, .slice none 0 0, .slice none 0 0, .bool false, .bool false] 181)
  have T1 := Lib.hid g1
  have T6 := Lib.hid (And.intro g6 (And.intro g7 (And.intro hm hbs)))
  have HS2 := Lib.hid (HSt.out.below hw0)
  unfold sbVal evVal
  dsimp only
  have HW := Lib.hid hW
  have Hw0 := Lib.hid hw0
  have R0 := Lib.hid r0
  have R1 := Lib.hid r1
  have R2 := Lib.hid r2
  have a0 := cell_of_row W _ 0 _ _ _ R0.out
  have a1 := cell_of_row W _ 1 _ _ _ R0.out
  have a2 := cell_of_row W _ 2 _ _ _ R0.out
  have a3 := cell_of_row W _ 3 _ _ _ R0.out
  have a4 := cell_of_row W _ 4 _ _ _ R0.out
  have a5 := cell_of_row W _ 5 _ _ _ R0.out
  have a6 := cell_of_row W _ 6 _ _ _ R0.out
  have a7 := cell_of_row W _ 7 _ _ _ R0.out
  have b0 := cell_of_row W _ 0 _ _ _ R1.out
  have b1 := cell_of_row W _ 1 _ _ _ R1.out
  have b2 := cell_of_row W _ 2 _ _ _ R1.out
  have b3 := cell_of_row W _ 3 _ _ _ R1.out
  have b5 := cell_of_row W _ 5 _ _ _ R1.out
  have f3 := frozen_of_row W _ 3 _ _ R0.out
  have f4 := frozen_of_row W _ 4 _ _ R0.out
  have f5 := frozen_of_row W _ 5 _ _ R0.out
  have f6 := frozen_of_row W _ 6 _ _ R0.out
  have f7 := frozen_of_row W _ 7 _ _ R0.out
  obtain ⟨Z, hZ⟩ : ∃ Z, Z = (W.setCell ⟨w.heap.size, 3, none⟩ (.string nm)) := ⟨_, rfl⟩
  have Z0 := Lib.hid (show Z.heap[w.heap.size]? = some (Obj.cells #[.int .i64 i1, .int .i64 i2, .int .i64 i3, .string nm, .slice none 0 0, .slice pa pn pc, .bool su, .bool fa] 181) by rw [hZ]; exact (row_set _ R0.out))
  have Z2 := Lib.hid (show Z.heap[w.heap.size + 1 + 1]? = some (Obj.cells #[.int .i64 0, .int .i64 0, .int .i64 0, .string ⟨#[]⟩, .slice none 0 0, .slice none 0 0, .bool false, .bool false] 181) by rw [hZ]; exact (row_other R2.out (by omega)))
  have HbZ := Lib.hid (show Below w.heap.size w Z by rw [hZ]; exact (Hw0.out.setCell (Nat.le_refl _) _))
  have HZ := Lib.hid hZ
  clear hZ
  clear hW r0 r1 r2 hw0 g1 g6 g7 hm hbs
  go_enter Tryz.func193, Tryz.ntmps193
  go_upto_region 1 with (fail)
  rw [← HW.out]
  go_upto_region 18 with (fail)
  rw [← HZ.out]
  clear a0 a1 a2 a3 a4 a5 a6 a7 b0 b1 b2 b3 b5 f3 f4 f5 f6 f7
  have z0 := cell_of_row Z _ 0 _ _ _ Z0.out
  have z1 := cell_of_row Z _ 1 _ _ _ Z0.out
  have z2 := cell_of_row Z _ 2 _ _ _ Z0.out
  have z3 := cell_of_row Z _ 3 _ _ _ Z0.out
  have z4 := cell_of_row Z _ 4 _ _ _ Z0.out
  have z5 := cell_of_row Z _ 5 _ _ _ Z0.out
  have z6 := cell_of_row Z _ 6 _ _ _ Z0.out
  have z7 := cell_of_row Z _ 7 _ _ _ Z0.out
  have HbF := Lib.hid (below_setRow1 HbZ.out (show w.heap.size ≤ w.heap.size + 1 + 1 by omega) #[.int .i64 i1, .int .i64 i2, .int .i64 i3, .string nm, .slice none 0 0, .slice pa pn pc, .bool su, .bool fa])
  have t0 := cell_setRow_same Z (w.heap.size + 1 + 1) 0 _ #[.int .i64 i1, .int .i64 i2, .int .i64 i3, .string nm, .slice none 0 0, .slice pa pn pc, .bool su, .bool fa] _ _ Z2.out
  have t1 := cell_setRow_same Z (w.heap.size + 1 + 1) 1 _ #[.int .i64 i1, .int .i64 i2, .int .i64 i3, .string nm, .slice none 0 0, .slice pa pn pc, .bool su, .bool fa] _ _ Z2.out
  have t2 := cell_setRow_same Z (w.heap.size + 1 + 1) 2 _ #[.int .i64 i1, .int .i64 i2, .int .i64 i3, .string nm, .slice none 0 0, .slice pa pn pc, .bool su, .bool fa] _ _ Z2.out
  have t3 := cell_setRow_same Z (w.heap.size + 1 + 1) 3 _ #[.int .i64 i1, .int .i64 i2, .int .i64 i3, .string nm, .slice none 0 0, .slice pa pn pc, .bool su, .bool fa] _ _ Z2.out
  have t4 := cell_setRow_same Z (w.heap.size + 1 + 1) 4 _ #[.int .i64 i1, .int .i64 i2, .int .i64 i3, .string nm, .slice none 0 0, .slice pa pn pc, .bool su, .bool fa] _ _ Z2.out
  have t5 := cell_setRow_same Z (w.heap.size + 1 + 1) 5 _ #[.int .i64 i1, .int .i64 i2, .int .i64 i3, .string nm, .slice none 0 0, .slice pa pn pc, .bool su, .bool fa] _ _ Z2.out
  have t6 := cell_setRow_same Z (w.heap.size + 1 + 1) 6 _ #[.int .i64 i1, .int .i64 i2, .int .i64 i3, .string nm, .slice none 0 0, .slice pa pn pc, .bool su, .bool fa] _ _ Z2.out
  have t7 := cell_setRow_same Z (w.heap.size + 1 + 1) 7 _ #[.int .i64 i1, .int .i64 i2, .int .i64 i3, .string nm, .slice none 0 0, .slice pa pn pc, .bool su, .bool fa] _ _ Z2.out
  repeat (first | refine wpList_store_row rfl _ _ _ rfl (w.heap.size + 1 + 1) #[.int .i64 i1, .int .i64 i2, .int .i64 i3, .string nm, .slice none 0 0, .slice pa pn pc, .bool su, .bool fa] rfl rfl 181 _ Z2.out (by kernel_rfl) rfl (by simp [Value.oneCell']) ?_ | go_step)
  refine bodyPost_ret (v := .agg #[.int .i64 i1, .int .i64 i2, .int .i64 i3, .string nm, .slice none 0 0, .slice pa pn pc, .bool su, .bool fa]) (by simp [results, Tryz.results193, go_sem, t0, t1, t2, t3, t4, t5, t6, t7]) rfl ?_
  exact nxTo HCh.out (ownsRow_below T1.out HbF.out) T6.out.2.2.1 T6.out.2.1 HbF.out

set_option maxRecDepth 100000 in
set_option maxHeartbeats 6400000 in
theorem next_8 (base : Nat) (x : SbX) (ev : Ev) (w : World) (hk : ev.kd = 8) (h : SbO base w x) (hbs : base ≤ w.heap.size) (hm : ev.nm.size ≤ maxLen) (h2 : x.s.prs.length ≤ 10000) :
    Calls Tryz.prog 193 #[sbVal x, evVal ev] w (NxTo base (nextS x.s ev) w) := by
  have HSt := Lib.hid h.strs
  have HPl := Lib.hid h.plain
  obtain ⟨⟨i1, i2, i3, i4, nus, prs, su, fa⟩, na, nn, nc, pa, pn, pc⟩ := x
  obtain ⟨tm, kd, ac, sb, nu, nm, vl⟩ := ev
  obtain ⟨g1, g2, g3, g4, g5, g6, g7⟩ := h
  dsimp only at hk hm h2 HSt HPl g1 g2 g3 g4 g5 g6 g7
  subst g2 g3 g4 g5
  subst hk
  have HCh := Lib.hid (show (⟨i1, i2, i3, i4, [], withT prs nm, su, fa⟩ : Sb) = nextS ⟨i1, i2, i3, i4, [], prs, su, fa⟩ ⟨tm, 8, ac, sb, nu, nm, vl⟩ from rfl)
  obtain ⟨W, hW, r0, r1, r2, hw0, hz⟩ := three_rows w (Obj.cells #[.int .i64 i1, .int .i64 i2, .int .i64 i3, .string i4, .slice none 0 0, .slice pa pn pc, .bool su, .bool fa] 181) (Obj.cells #[.int .i64 tm, .int .i64 8, .int .i64 ac, .int .i64 sb, .string nu, .string nm, .int .i64 vl] 55) (Obj.cells #[.int .i64 0, .int .i64 0, .int .i64 0, .string ⟨#[]⟩, .slice none 0 0, .slice none 0 0, .bool false, .bool false] 181)
  have T1 := Lib.hid g1
  have T6 := Lib.hid (And.intro g6 (And.intro g7 (And.intro hm hbs)))
  have HS2 := Lib.hid (HSt.out.below hw0)
  unfold sbVal evVal
  dsimp only
  have HW := Lib.hid hW
  have Hw0 := Lib.hid hw0
  have R0 := Lib.hid r0
  have R1 := Lib.hid r1
  have R2 := Lib.hid r2
  have HCl := Lib.hid (swith_calls _ _ nm W HS2.out (by intro a n c e; cases e; exact HPl.out) h2)
  have a0 := cell_of_row W _ 0 _ _ _ R0.out
  have a1 := cell_of_row W _ 1 _ _ _ R0.out
  have a2 := cell_of_row W _ 2 _ _ _ R0.out
  have a3 := cell_of_row W _ 3 _ _ _ R0.out
  have a4 := cell_of_row W _ 4 _ _ _ R0.out
  have a5 := cell_of_row W _ 5 _ _ _ R0.out
  have a6 := cell_of_row W _ 6 _ _ _ R0.out
  have a7 := cell_of_row W _ 7 _ _ _ R0.out
  have b0 := cell_of_row W _ 0 _ _ _ R1.out
  have b1 := cell_of_row W _ 1 _ _ _ R1.out
  have b2 := cell_of_row W _ 2 _ _ _ R1.out
  have b3 := cell_of_row W _ 3 _ _ _ R1.out
  have b5 := cell_of_row W _ 5 _ _ _ R1.out
  have f3 := frozen_of_row W _ 3 _ _ R0.out
  have f4 := frozen_of_row W _ 4 _ _ R0.out
  have f5 := frozen_of_row W _ 5 _ _ R0.out
  have f6 := frozen_of_row W _ 6 _ _ R0.out
  have f7 := frozen_of_row W _ 7 _ _ R0.out
  clear hW r0 r1 r2 hw0 g1 g6 g7 hm hbs
  go_enter Tryz.func193, Tryz.ntmps193
  go_upto_region 1 with (fail)
  rw [← HW.out]
  go_wp2_with fail
  refine HCl.out.mono ?_
  rintro e w1 ⟨qa, qn, qc, rfl, hst, hb1⟩
  have Hst := Lib.hid (own_down hst (show base ≤ W.heap.size by have := T6.out.2.2.2; have := Hw0.out.size; omega))
  have Hb1 := Lib.hid (Hw0.out.trans (hb1.mono Hw0.out.size))
  have q0 := (hb1.block _ (by omega)).trans R0.out
  have q2 := (hb1.block _ hz).trans R2.out
  have Q0 := Lib.hid q0
  have g5 := cell_of_row w1 _ 5 _ _ _ q0
  have gf := frozen_of_row w1 _ 5 _ _ q0
  obtain ⟨Z, hZ⟩ : ∃ Z, Z = w1.setCell ⟨w.heap.size, 5, none⟩ (.slice qa qn qc) := ⟨_, rfl⟩
  have Z0 := Lib.hid (show Z.heap[w.heap.size]? = some (Obj.cells #[.int .i64 i1, .int .i64 i2, .int .i64 i3, .string i4, .slice none 0 0, .slice qa qn qc, .bool su, .bool fa] 181) by rw [hZ]; exact row_set _ q0)
  have Z2 := Lib.hid (show Z.heap[w.heap.size + 1 + 1]? = some (Obj.cells #[.int .i64 0, .int .i64 0, .int .i64 0, .string ⟨#[]⟩, .slice none 0 0, .slice none 0 0, .bool false, .bool false] 181) by rw [hZ]; exact row_other q2 (by omega))
  have HbZ := Lib.hid (show Below w.heap.size w Z by rw [hZ]; exact Hb1.out.setCell (Nat.le_refl _) _)
  have Hq := Lib.hid (show Z.ownsRow base 9 1 (.slice qa qn qc) _ _ by rw [hZ]; exact own_setCell1 Hst.out (own_other Hst.out q0 (by decide)))
  have HZ := Lib.hid hZ
  clear hZ q0 q2 hst hb1 a0 a1 a2 a3 a4 a5 a6 a7 b0 b1 b2 b3 b5 f3 f4 f5 f6 f7
  go_upto_region 18 with (fail)
  rw [← HZ.out]
  have z0 := cell_of_row Z _ 0 _ _ _ Z0.out
  have z1 := cell_of_row Z _ 1 _ _ _ Z0.out
  have z2 := cell_of_row Z _ 2 _ _ _ Z0.out
  have z3 := cell_of_row Z _ 3 _ _ _ Z0.out
  have z4 := cell_of_row Z _ 4 _ _ _ Z0.out
  have z5 := cell_of_row Z _ 5 _ _ _ Z0.out
  have z6 := cell_of_row Z _ 6 _ _ _ Z0.out
  have z7 := cell_of_row Z _ 7 _ _ _ Z0.out
  have HbF := Lib.hid (below_setRow1 HbZ.out (show w.heap.size ≤ w.heap.size + 1 + 1 by omega) #[.int .i64 i1, .int .i64 i2, .int .i64 i3, .string i4, .slice none 0 0, .slice qa qn qc, .bool su, .bool fa])
  have t0 := cell_setRow_same Z (w.heap.size + 1 + 1) 0 _ #[.int .i64 i1, .int .i64 i2, .int .i64 i3, .string i4, .slice none 0 0, .slice qa qn qc, .bool su, .bool fa] _ _ Z2.out
  have t1 := cell_setRow_same Z (w.heap.size + 1 + 1) 1 _ #[.int .i64 i1, .int .i64 i2, .int .i64 i3, .string i4, .slice none 0 0, .slice qa qn qc, .bool su, .bool fa] _ _ Z2.out
  have t2 := cell_setRow_same Z (w.heap.size + 1 + 1) 2 _ #[.int .i64 i1, .int .i64 i2, .int .i64 i3, .string i4, .slice none 0 0, .slice qa qn qc, .bool su, .bool fa] _ _ Z2.out
  have t3 := cell_setRow_same Z (w.heap.size + 1 + 1) 3 _ #[.int .i64 i1, .int .i64 i2, .int .i64 i3, .string i4, .slice none 0 0, .slice qa qn qc, .bool su, .bool fa] _ _ Z2.out
  have t4 := cell_setRow_same Z (w.heap.size + 1 + 1) 4 _ #[.int .i64 i1, .int .i64 i2, .int .i64 i3, .string i4, .slice none 0 0, .slice qa qn qc, .bool su, .bool fa] _ _ Z2.out
  have t5 := cell_setRow_same Z (w.heap.size + 1 + 1) 5 _ #[.int .i64 i1, .int .i64 i2, .int .i64 i3, .string i4, .slice none 0 0, .slice qa qn qc, .bool su, .bool fa] _ _ Z2.out
  have t6 := cell_setRow_same Z (w.heap.size + 1 + 1) 6 _ #[.int .i64 i1, .int .i64 i2, .int .i64 i3, .string i4, .slice none 0 0, .slice qa qn qc, .bool su, .bool fa] _ _ Z2.out
  have t7 := cell_setRow_same Z (w.heap.size + 1 + 1) 7 _ #[.int .i64 i1, .int .i64 i2, .int .i64 i3, .string i4, .slice none 0 0, .slice qa qn qc, .bool su, .bool fa] _ _ Z2.out
  repeat (first | refine wpList_store_row rfl _ _ _ rfl (w.heap.size + 1 + 1) #[.int .i64 i1, .int .i64 i2, .int .i64 i3, .string i4, .slice none 0 0, .slice qa qn qc, .bool su, .bool fa] rfl rfl 181 _ Z2.out (by kernel_rfl) rfl (by simp [Value.oneCell']) ?_ | go_step)
  refine bodyPost_ret (v := .agg #[.int .i64 i1, .int .i64 i2, .int .i64 i3, .string i4, .slice none 0 0, .slice qa qn qc, .bool su, .bool fa]) (by simp [results, Tryz.results193, go_sem, t0, t1, t2, t3, t4, t5, t6, t7]) rfl ?_
  exact nxTo HCh.out (own_setRow1 Hq.out (own_other Hq.out Z2.out (by decide)) _) T6.out.1 (withT_sizes T6.out.2.1 T6.out.2.2.1) HbF.out

set_option maxRecDepth 100000 in
set_option maxHeartbeats 6400000 in
theorem next_9 (base : Nat) (x : SbX) (ev : Ev) (w : World) (hk : ev.kd = 9) (h : SbO base w x) (hbs : base ≤ w.heap.size) (hm : ev.nm.size ≤ maxLen) (h2 : x.s.prs.length ≤ 10000) :
    Calls Tryz.prog 193 #[sbVal x, evVal ev] w (NxTo base (nextS x.s ev) w) := by
  have HSt := Lib.hid h.strs
  have HPl := Lib.hid h.plain
  obtain ⟨⟨i1, i2, i3, i4, nus, prs, su, fa⟩, na, nn, nc, pa, pn, pc⟩ := x
  obtain ⟨tm, kd, ac, sb, nu, nm, vl⟩ := ev
  obtain ⟨g1, g2, g3, g4, g5, g6, g7⟩ := h
  dsimp only at hk hm h2 HSt HPl g1 g2 g3 g4 g5 g6 g7
  subst g2 g3 g4 g5
  subst hk
  have HCh := Lib.hid (show (⟨i1, i2, i3, i4, [], withoutT prs nm, su, fa⟩ : Sb) = nextS ⟨i1, i2, i3, i4, [], prs, su, fa⟩ ⟨tm, 9, ac, sb, nu, nm, vl⟩ from rfl)
  obtain ⟨W, hW, r0, r1, r2, hw0, hz⟩ := three_rows w (Obj.cells #[.int .i64 i1, .int .i64 i2, .int .i64 i3, .string i4, .slice none 0 0, .slice pa pn pc, .bool su, .bool fa] 181) (Obj.cells #[.int .i64 tm, .int .i64 9, .int .i64 ac, .int .i64 sb, .string nu, .string nm, .int .i64 vl] 55) (Obj.cells #[.int .i64 0, .int .i64 0, .int .i64 0, .string ⟨#[]⟩, .slice none 0 0, .slice none 0 0, .bool false, .bool false] 181)
  have T1 := Lib.hid g1
  have T6 := Lib.hid (And.intro g6 (And.intro g7 (And.intro hm hbs)))
  have HS2 := Lib.hid (HSt.out.below hw0)
  unfold sbVal evVal
  dsimp only
  have HW := Lib.hid hW
  have Hw0 := Lib.hid hw0
  have R0 := Lib.hid r0
  have R1 := Lib.hid r1
  have R2 := Lib.hid r2
  have HCl := Lib.hid (swithout_calls _ _ nm W HS2.out h2)
  have a0 := cell_of_row W _ 0 _ _ _ R0.out
  have a1 := cell_of_row W _ 1 _ _ _ R0.out
  have a2 := cell_of_row W _ 2 _ _ _ R0.out
  have a3 := cell_of_row W _ 3 _ _ _ R0.out
  have a4 := cell_of_row W _ 4 _ _ _ R0.out
  have a5 := cell_of_row W _ 5 _ _ _ R0.out
  have a6 := cell_of_row W _ 6 _ _ _ R0.out
  have a7 := cell_of_row W _ 7 _ _ _ R0.out
  have b0 := cell_of_row W _ 0 _ _ _ R1.out
  have b1 := cell_of_row W _ 1 _ _ _ R1.out
  have b2 := cell_of_row W _ 2 _ _ _ R1.out
  have b3 := cell_of_row W _ 3 _ _ _ R1.out
  have b5 := cell_of_row W _ 5 _ _ _ R1.out
  have f3 := frozen_of_row W _ 3 _ _ R0.out
  have f4 := frozen_of_row W _ 4 _ _ R0.out
  have f5 := frozen_of_row W _ 5 _ _ R0.out
  have f6 := frozen_of_row W _ 6 _ _ R0.out
  have f7 := frozen_of_row W _ 7 _ _ R0.out
  clear hW r0 r1 r2 hw0 g1 g6 g7 hm hbs
  go_enter Tryz.func193, Tryz.ntmps193
  go_upto_region 1 with (fail)
  rw [← HW.out]
  go_wp2_with fail
  refine HCl.out.mono ?_
  rintro e w1 ⟨qa, qn, qc, rfl, hst, hb1⟩
  have Hst := Lib.hid (own_down hst (show base ≤ W.heap.size by have := T6.out.2.2.2; have := Hw0.out.size; omega))
  have Hb1 := Lib.hid (Hw0.out.trans (hb1.mono Hw0.out.size))
  have q0 := (hb1.block _ (by omega)).trans R0.out
  have q2 := (hb1.block _ hz).trans R2.out
  have Q0 := Lib.hid q0
  have g5 := cell_of_row w1 _ 5 _ _ _ q0
  have gf := frozen_of_row w1 _ 5 _ _ q0
  obtain ⟨Z, hZ⟩ : ∃ Z, Z = w1.setCell ⟨w.heap.size, 5, none⟩ (.slice qa qn qc) := ⟨_, rfl⟩
  have Z0 := Lib.hid (show Z.heap[w.heap.size]? = some (Obj.cells #[.int .i64 i1, .int .i64 i2, .int .i64 i3, .string i4, .slice none 0 0, .slice qa qn qc, .bool su, .bool fa] 181) by rw [hZ]; exact row_set _ q0)
  have Z2 := Lib.hid (show Z.heap[w.heap.size + 1 + 1]? = some (Obj.cells #[.int .i64 0, .int .i64 0, .int .i64 0, .string ⟨#[]⟩, .slice none 0 0, .slice none 0 0, .bool false, .bool false] 181) by rw [hZ]; exact row_other q2 (by omega))
  have HbZ := Lib.hid (show Below w.heap.size w Z by rw [hZ]; exact Hb1.out.setCell (Nat.le_refl _) _)
  have Hq := Lib.hid (show Z.ownsRow base 9 1 (.slice qa qn qc) _ _ by rw [hZ]; exact own_setCell1 Hst.out (own_other Hst.out q0 (by decide)))
  have HZ := Lib.hid hZ
  clear hZ q0 q2 hst hb1 a0 a1 a2 a3 a4 a5 a6 a7 b0 b1 b2 b3 b5 f3 f4 f5 f6 f7
  go_upto_region 18 with (fail)
  rw [← HZ.out]
  have z0 := cell_of_row Z _ 0 _ _ _ Z0.out
  have z1 := cell_of_row Z _ 1 _ _ _ Z0.out
  have z2 := cell_of_row Z _ 2 _ _ _ Z0.out
  have z3 := cell_of_row Z _ 3 _ _ _ Z0.out
  have z4 := cell_of_row Z _ 4 _ _ _ Z0.out
  have z5 := cell_of_row Z _ 5 _ _ _ Z0.out
  have z6 := cell_of_row Z _ 6 _ _ _ Z0.out
  have z7 := cell_of_row Z _ 7 _ _ _ Z0.out
  have HbF := Lib.hid (below_setRow1 HbZ.out (show w.heap.size ≤ w.heap.size + 1 + 1 by omega) #[.int .i64 i1, .int .i64 i2, .int .i64 i3, .string i4, .slice none 0 0, .slice qa qn qc, .bool su, .bool fa])
  have t0 := cell_setRow_same Z (w.heap.size + 1 + 1) 0 _ #[.int .i64 i1, .int .i64 i2, .int .i64 i3, .string i4, .slice none 0 0, .slice qa qn qc, .bool su, .bool fa] _ _ Z2.out
  have t1 := cell_setRow_same Z (w.heap.size + 1 + 1) 1 _ #[.int .i64 i1, .int .i64 i2, .int .i64 i3, .string i4, .slice none 0 0, .slice qa qn qc, .bool su, .bool fa] _ _ Z2.out
  have t2 := cell_setRow_same Z (w.heap.size + 1 + 1) 2 _ #[.int .i64 i1, .int .i64 i2, .int .i64 i3, .string i4, .slice none 0 0, .slice qa qn qc, .bool su, .bool fa] _ _ Z2.out
  have t3 := cell_setRow_same Z (w.heap.size + 1 + 1) 3 _ #[.int .i64 i1, .int .i64 i2, .int .i64 i3, .string i4, .slice none 0 0, .slice qa qn qc, .bool su, .bool fa] _ _ Z2.out
  have t4 := cell_setRow_same Z (w.heap.size + 1 + 1) 4 _ #[.int .i64 i1, .int .i64 i2, .int .i64 i3, .string i4, .slice none 0 0, .slice qa qn qc, .bool su, .bool fa] _ _ Z2.out
  have t5 := cell_setRow_same Z (w.heap.size + 1 + 1) 5 _ #[.int .i64 i1, .int .i64 i2, .int .i64 i3, .string i4, .slice none 0 0, .slice qa qn qc, .bool su, .bool fa] _ _ Z2.out
  have t6 := cell_setRow_same Z (w.heap.size + 1 + 1) 6 _ #[.int .i64 i1, .int .i64 i2, .int .i64 i3, .string i4, .slice none 0 0, .slice qa qn qc, .bool su, .bool fa] _ _ Z2.out
  have t7 := cell_setRow_same Z (w.heap.size + 1 + 1) 7 _ #[.int .i64 i1, .int .i64 i2, .int .i64 i3, .string i4, .slice none 0 0, .slice qa qn qc, .bool su, .bool fa] _ _ Z2.out
  repeat (first | refine wpList_store_row rfl _ _ _ rfl (w.heap.size + 1 + 1) #[.int .i64 i1, .int .i64 i2, .int .i64 i3, .string i4, .slice none 0 0, .slice qa qn qc, .bool su, .bool fa] rfl rfl 181 _ Z2.out (by kernel_rfl) rfl (by simp [Value.oneCell']) ?_ | go_step)
  refine bodyPost_ret (v := .agg #[.int .i64 i1, .int .i64 i2, .int .i64 i3, .string i4, .slice none 0 0, .slice qa qn qc, .bool su, .bool fa]) (by simp [results, Tryz.results193, go_sem, t0, t1, t2, t3, t4, t5, t6, t7]) rfl ?_
  exact nxTo HCh.out (own_setRow1 Hq.out (own_other Hq.out Z2.out (by decide)) _) T6.out.1 (withoutT_sizes T6.out.2.1) HbF.out

set_option maxRecDepth 100000 in
set_option maxHeartbeats 6400000 in
theorem next_10 (base : Nat) (x : SbX) (ev : Ev) (w : World) (hk : ev.kd = 10) (h : SbO base w x) (hbs : base ≤ w.heap.size) (hm : ev.nm.size ≤ maxLen) (h2 : x.s.prs.length ≤ 10000) :
    Calls Tryz.prog 193 #[sbVal x, evVal ev] w (NxTo base (nextS x.s ev) w) := by
  have HSt := Lib.hid h.strs
  have HPl := Lib.hid h.plain
  obtain ⟨⟨i1, i2, i3, i4, nus, prs, su, fa⟩, na, nn, nc, pa, pn, pc⟩ := x
  obtain ⟨tm, kd, ac, sb, nu, nm, vl⟩ := ev
  obtain ⟨g1, g2, g3, g4, g5, g6, g7⟩ := h
  dsimp only at hk hm h2 HSt HPl g1 g2 g3 g4 g5 g6 g7
  subst g2 g3 g4 g5
  subst hk
  have HCh := Lib.hid (show (⟨i1, i2, i3, i4, [], prs, true, fa⟩ : Sb) = nextS ⟨i1, i2, i3, i4, [], prs, su, fa⟩ ⟨tm, 10, ac, sb, nu, nm, vl⟩ from rfl)
  obtain ⟨W, hW, r0, r1, r2, hw0, hz⟩ := three_rows w (Obj.cells #[.int .i64 i1, .int .i64 i2, .int .i64 i3, .string i4, .slice none 0 0, .slice pa pn pc, .bool su, .bool fa] 181) (Obj.cells #[.int .i64 tm, .int .i64 10, .int .i64 ac, .int .i64 sb, .string nu, .string nm, .int .i64 vl] 55) (Obj.cells #[.int .i64 0, .int .i64 0, .int .i64 0, .string ⟨#[]⟩, .slice none 0 0, .slice none 0 0, .bool false, .bool false] 181)
  have T1 := Lib.hid g1
  have T6 := Lib.hid (And.intro g6 (And.intro g7 (And.intro hm hbs)))
  have HS2 := Lib.hid (HSt.out.below hw0)
  unfold sbVal evVal
  dsimp only
  have HW := Lib.hid hW
  have Hw0 := Lib.hid hw0
  have R0 := Lib.hid r0
  have R1 := Lib.hid r1
  have R2 := Lib.hid r2
  have a0 := cell_of_row W _ 0 _ _ _ R0.out
  have a1 := cell_of_row W _ 1 _ _ _ R0.out
  have a2 := cell_of_row W _ 2 _ _ _ R0.out
  have a3 := cell_of_row W _ 3 _ _ _ R0.out
  have a4 := cell_of_row W _ 4 _ _ _ R0.out
  have a5 := cell_of_row W _ 5 _ _ _ R0.out
  have a6 := cell_of_row W _ 6 _ _ _ R0.out
  have a7 := cell_of_row W _ 7 _ _ _ R0.out
  have b0 := cell_of_row W _ 0 _ _ _ R1.out
  have b1 := cell_of_row W _ 1 _ _ _ R1.out
  have b2 := cell_of_row W _ 2 _ _ _ R1.out
  have b3 := cell_of_row W _ 3 _ _ _ R1.out
  have b5 := cell_of_row W _ 5 _ _ _ R1.out
  have f3 := frozen_of_row W _ 3 _ _ R0.out
  have f4 := frozen_of_row W _ 4 _ _ R0.out
  have f5 := frozen_of_row W _ 5 _ _ R0.out
  have f6 := frozen_of_row W _ 6 _ _ R0.out
  have f7 := frozen_of_row W _ 7 _ _ R0.out
  obtain ⟨Z, hZ⟩ : ∃ Z, Z = (W.setCell ⟨w.heap.size, 6, none⟩ (.bool true)) := ⟨_, rfl⟩
  have Z0 := Lib.hid (show Z.heap[w.heap.size]? = some (Obj.cells #[.int .i64 i1, .int .i64 i2, .int .i64 i3, .string i4, .slice none 0 0, .slice pa pn pc, .bool true, .bool fa] 181) by rw [hZ]; exact (row_set _ R0.out))
  have Z2 := Lib.hid (show Z.heap[w.heap.size + 1 + 1]? = some (Obj.cells #[.int .i64 0, .int .i64 0, .int .i64 0, .string ⟨#[]⟩, .slice none 0 0, .slice none 0 0, .bool false, .bool false] 181) by rw [hZ]; exact (row_other R2.out (by omega)))
  have HbZ := Lib.hid (show Below w.heap.size w Z by rw [hZ]; exact (Hw0.out.setCell (Nat.le_refl _) _))
  have HZ := Lib.hid hZ
  clear hZ
  clear hW r0 r1 r2 hw0 g1 g6 g7 hm hbs
  go_enter Tryz.func193, Tryz.ntmps193
  go_upto_region 1 with (fail)
  rw [← HW.out]
  go_upto_region 18 with (fail)
  rw [← HZ.out]
  clear a0 a1 a2 a3 a4 a5 a6 a7 b0 b1 b2 b3 b5 f3 f4 f5 f6 f7
  have z0 := cell_of_row Z _ 0 _ _ _ Z0.out
  have z1 := cell_of_row Z _ 1 _ _ _ Z0.out
  have z2 := cell_of_row Z _ 2 _ _ _ Z0.out
  have z3 := cell_of_row Z _ 3 _ _ _ Z0.out
  have z4 := cell_of_row Z _ 4 _ _ _ Z0.out
  have z5 := cell_of_row Z _ 5 _ _ _ Z0.out
  have z6 := cell_of_row Z _ 6 _ _ _ Z0.out
  have z7 := cell_of_row Z _ 7 _ _ _ Z0.out
  have HbF := Lib.hid (below_setRow1 HbZ.out (show w.heap.size ≤ w.heap.size + 1 + 1 by omega) #[.int .i64 i1, .int .i64 i2, .int .i64 i3, .string i4, .slice none 0 0, .slice pa pn pc, .bool true, .bool fa])
  have t0 := cell_setRow_same Z (w.heap.size + 1 + 1) 0 _ #[.int .i64 i1, .int .i64 i2, .int .i64 i3, .string i4, .slice none 0 0, .slice pa pn pc, .bool true, .bool fa] _ _ Z2.out
  have t1 := cell_setRow_same Z (w.heap.size + 1 + 1) 1 _ #[.int .i64 i1, .int .i64 i2, .int .i64 i3, .string i4, .slice none 0 0, .slice pa pn pc, .bool true, .bool fa] _ _ Z2.out
  have t2 := cell_setRow_same Z (w.heap.size + 1 + 1) 2 _ #[.int .i64 i1, .int .i64 i2, .int .i64 i3, .string i4, .slice none 0 0, .slice pa pn pc, .bool true, .bool fa] _ _ Z2.out
  have t3 := cell_setRow_same Z (w.heap.size + 1 + 1) 3 _ #[.int .i64 i1, .int .i64 i2, .int .i64 i3, .string i4, .slice none 0 0, .slice pa pn pc, .bool true, .bool fa] _ _ Z2.out
  have t4 := cell_setRow_same Z (w.heap.size + 1 + 1) 4 _ #[.int .i64 i1, .int .i64 i2, .int .i64 i3, .string i4, .slice none 0 0, .slice pa pn pc, .bool true, .bool fa] _ _ Z2.out
  have t5 := cell_setRow_same Z (w.heap.size + 1 + 1) 5 _ #[.int .i64 i1, .int .i64 i2, .int .i64 i3, .string i4, .slice none 0 0, .slice pa pn pc, .bool true, .bool fa] _ _ Z2.out
  have t6 := cell_setRow_same Z (w.heap.size + 1 + 1) 6 _ #[.int .i64 i1, .int .i64 i2, .int .i64 i3, .string i4, .slice none 0 0, .slice pa pn pc, .bool true, .bool fa] _ _ Z2.out
  have t7 := cell_setRow_same Z (w.heap.size + 1 + 1) 7 _ #[.int .i64 i1, .int .i64 i2, .int .i64 i3, .string i4, .slice none 0 0, .slice pa pn pc, .bool true, .bool fa] _ _ Z2.out
  repeat (first | refine wpList_store_row rfl _ _ _ rfl (w.heap.size + 1 + 1) #[.int .i64 i1, .int .i64 i2, .int .i64 i3, .string i4, .slice none 0 0, .slice pa pn pc, .bool true, .bool fa] rfl rfl 181 _ Z2.out (by kernel_rfl) rfl (by simp [Value.oneCell']) ?_ | go_step)
  refine bodyPost_ret (v := .agg #[.int .i64 i1, .int .i64 i2, .int .i64 i3, .string i4, .slice none 0 0, .slice pa pn pc, .bool true, .bool fa]) (by simp [results, Tryz.results193, go_sem, t0, t1, t2, t3, t4, t5, t6, t7]) rfl ?_
  exact nxTo HCh.out (ownsRow_below T1.out HbF.out) T6.out.1 T6.out.2.1 HbF.out

set_option maxRecDepth 100000 in
set_option maxHeartbeats 6400000 in
theorem next_11 (base : Nat) (x : SbX) (ev : Ev) (w : World) (hk : ev.kd = 11) (h : SbO base w x) (hbs : base ≤ w.heap.size) (hm : ev.nm.size ≤ maxLen) (h2 : x.s.prs.length ≤ 10000) :
    Calls Tryz.prog 193 #[sbVal x, evVal ev] w (NxTo base (nextS x.s ev) w) := by
  have HSt := Lib.hid h.strs
  have HPl := Lib.hid h.plain
  obtain ⟨⟨i1, i2, i3, i4, nus, prs, su, fa⟩, na, nn, nc, pa, pn, pc⟩ := x
  obtain ⟨tm, kd, ac, sb, nu, nm, vl⟩ := ev
  obtain ⟨g1, g2, g3, g4, g5, g6, g7⟩ := h
  dsimp only at hk hm h2 HSt HPl g1 g2 g3 g4 g5 g6 g7
  subst g2 g3 g4 g5
  subst hk
  have HCh := Lib.hid (show (⟨i1, i2, i3, i4, [], prs, false, fa⟩ : Sb) = nextS ⟨i1, i2, i3, i4, [], prs, su, fa⟩ ⟨tm, 11, ac, sb, nu, nm, vl⟩ from rfl)
  obtain ⟨W, hW, r0, r1, r2, hw0, hz⟩ := three_rows w (Obj.cells #[.int .i64 i1, .int .i64 i2, .int .i64 i3, .string i4, .slice none 0 0, .slice pa pn pc, .bool su, .bool fa] 181) (Obj.cells #[.int .i64 tm, .int .i64 11, .int .i64 ac, .int .i64 sb, .string nu, .string nm, .int .i64 vl] 55) (Obj.cells #[.int .i64 0, .int .i64 0, .int .i64 0, .string ⟨#[]⟩, .slice none 0 0, .slice none 0 0, .bool false, .bool false] 181)
  have T1 := Lib.hid g1
  have T6 := Lib.hid (And.intro g6 (And.intro g7 (And.intro hm hbs)))
  have HS2 := Lib.hid (HSt.out.below hw0)
  unfold sbVal evVal
  dsimp only
  have HW := Lib.hid hW
  have Hw0 := Lib.hid hw0
  have R0 := Lib.hid r0
  have R1 := Lib.hid r1
  have R2 := Lib.hid r2
  have a0 := cell_of_row W _ 0 _ _ _ R0.out
  have a1 := cell_of_row W _ 1 _ _ _ R0.out
  have a2 := cell_of_row W _ 2 _ _ _ R0.out
  have a3 := cell_of_row W _ 3 _ _ _ R0.out
  have a4 := cell_of_row W _ 4 _ _ _ R0.out
  have a5 := cell_of_row W _ 5 _ _ _ R0.out
  have a6 := cell_of_row W _ 6 _ _ _ R0.out
  have a7 := cell_of_row W _ 7 _ _ _ R0.out
  have b0 := cell_of_row W _ 0 _ _ _ R1.out
  have b1 := cell_of_row W _ 1 _ _ _ R1.out
  have b2 := cell_of_row W _ 2 _ _ _ R1.out
  have b3 := cell_of_row W _ 3 _ _ _ R1.out
  have b5 := cell_of_row W _ 5 _ _ _ R1.out
  have f3 := frozen_of_row W _ 3 _ _ R0.out
  have f4 := frozen_of_row W _ 4 _ _ R0.out
  have f5 := frozen_of_row W _ 5 _ _ R0.out
  have f6 := frozen_of_row W _ 6 _ _ R0.out
  have f7 := frozen_of_row W _ 7 _ _ R0.out
  obtain ⟨Z, hZ⟩ : ∃ Z, Z = (W.setCell ⟨w.heap.size, 6, none⟩ (.bool false)) := ⟨_, rfl⟩
  have Z0 := Lib.hid (show Z.heap[w.heap.size]? = some (Obj.cells #[.int .i64 i1, .int .i64 i2, .int .i64 i3, .string i4, .slice none 0 0, .slice pa pn pc, .bool false, .bool fa] 181) by rw [hZ]; exact (row_set _ R0.out))
  have Z2 := Lib.hid (show Z.heap[w.heap.size + 1 + 1]? = some (Obj.cells #[.int .i64 0, .int .i64 0, .int .i64 0, .string ⟨#[]⟩, .slice none 0 0, .slice none 0 0, .bool false, .bool false] 181) by rw [hZ]; exact (row_other R2.out (by omega)))
  have HbZ := Lib.hid (show Below w.heap.size w Z by rw [hZ]; exact (Hw0.out.setCell (Nat.le_refl _) _))
  have HZ := Lib.hid hZ
  clear hZ
  clear hW r0 r1 r2 hw0 g1 g6 g7 hm hbs
  go_enter Tryz.func193, Tryz.ntmps193
  go_upto_region 1 with (fail)
  rw [← HW.out]
  go_upto_region 18 with (fail)
  rw [← HZ.out]
  clear a0 a1 a2 a3 a4 a5 a6 a7 b0 b1 b2 b3 b5 f3 f4 f5 f6 f7
  have z0 := cell_of_row Z _ 0 _ _ _ Z0.out
  have z1 := cell_of_row Z _ 1 _ _ _ Z0.out
  have z2 := cell_of_row Z _ 2 _ _ _ Z0.out
  have z3 := cell_of_row Z _ 3 _ _ _ Z0.out
  have z4 := cell_of_row Z _ 4 _ _ _ Z0.out
  have z5 := cell_of_row Z _ 5 _ _ _ Z0.out
  have z6 := cell_of_row Z _ 6 _ _ _ Z0.out
  have z7 := cell_of_row Z _ 7 _ _ _ Z0.out
  have HbF := Lib.hid (below_setRow1 HbZ.out (show w.heap.size ≤ w.heap.size + 1 + 1 by omega) #[.int .i64 i1, .int .i64 i2, .int .i64 i3, .string i4, .slice none 0 0, .slice pa pn pc, .bool false, .bool fa])
  have t0 := cell_setRow_same Z (w.heap.size + 1 + 1) 0 _ #[.int .i64 i1, .int .i64 i2, .int .i64 i3, .string i4, .slice none 0 0, .slice pa pn pc, .bool false, .bool fa] _ _ Z2.out
  have t1 := cell_setRow_same Z (w.heap.size + 1 + 1) 1 _ #[.int .i64 i1, .int .i64 i2, .int .i64 i3, .string i4, .slice none 0 0, .slice pa pn pc, .bool false, .bool fa] _ _ Z2.out
  have t2 := cell_setRow_same Z (w.heap.size + 1 + 1) 2 _ #[.int .i64 i1, .int .i64 i2, .int .i64 i3, .string i4, .slice none 0 0, .slice pa pn pc, .bool false, .bool fa] _ _ Z2.out
  have t3 := cell_setRow_same Z (w.heap.size + 1 + 1) 3 _ #[.int .i64 i1, .int .i64 i2, .int .i64 i3, .string i4, .slice none 0 0, .slice pa pn pc, .bool false, .bool fa] _ _ Z2.out
  have t4 := cell_setRow_same Z (w.heap.size + 1 + 1) 4 _ #[.int .i64 i1, .int .i64 i2, .int .i64 i3, .string i4, .slice none 0 0, .slice pa pn pc, .bool false, .bool fa] _ _ Z2.out
  have t5 := cell_setRow_same Z (w.heap.size + 1 + 1) 5 _ #[.int .i64 i1, .int .i64 i2, .int .i64 i3, .string i4, .slice none 0 0, .slice pa pn pc, .bool false, .bool fa] _ _ Z2.out
  have t6 := cell_setRow_same Z (w.heap.size + 1 + 1) 6 _ #[.int .i64 i1, .int .i64 i2, .int .i64 i3, .string i4, .slice none 0 0, .slice pa pn pc, .bool false, .bool fa] _ _ Z2.out
  have t7 := cell_setRow_same Z (w.heap.size + 1 + 1) 7 _ #[.int .i64 i1, .int .i64 i2, .int .i64 i3, .string i4, .slice none 0 0, .slice pa pn pc, .bool false, .bool fa] _ _ Z2.out
  repeat (first | refine wpList_store_row rfl _ _ _ rfl (w.heap.size + 1 + 1) #[.int .i64 i1, .int .i64 i2, .int .i64 i3, .string i4, .slice none 0 0, .slice pa pn pc, .bool false, .bool fa] rfl rfl 181 _ Z2.out (by kernel_rfl) rfl (by simp [Value.oneCell']) ?_ | go_step)
  refine bodyPost_ret (v := .agg #[.int .i64 i1, .int .i64 i2, .int .i64 i3, .string i4, .slice none 0 0, .slice pa pn pc, .bool false, .bool fa]) (by simp [results, Tryz.results193, go_sem, t0, t1, t2, t3, t4, t5, t6, t7]) rfl ?_
  exact nxTo HCh.out (ownsRow_below T1.out HbF.out) T6.out.1 T6.out.2.1 HbF.out

set_option maxRecDepth 100000 in
set_option maxHeartbeats 6400000 in
theorem next_12 (base : Nat) (x : SbX) (ev : Ev) (w : World) (hk : ev.kd = 12) (h : SbO base w x) (hbs : base ≤ w.heap.size) (hm : ev.nm.size ≤ maxLen) (h2 : x.s.prs.length ≤ 10000) :
    Calls Tryz.prog 193 #[sbVal x, evVal ev] w (NxTo base (nextS x.s ev) w) := by
  have HSt := Lib.hid h.strs
  have HPl := Lib.hid h.plain
  obtain ⟨⟨i1, i2, i3, i4, nus, prs, su, fa⟩, na, nn, nc, pa, pn, pc⟩ := x
  obtain ⟨tm, kd, ac, sb, nu, nm, vl⟩ := ev
  obtain ⟨g1, g2, g3, g4, g5, g6, g7⟩ := h
  dsimp only at hk hm h2 HSt HPl g1 g2 g3 g4 g5 g6 g7
  subst g2 g3 g4 g5
  subst hk
  have HCh := Lib.hid (show (⟨i1, i2, i3, i4, [], prs, su, true⟩ : Sb) = nextS ⟨i1, i2, i3, i4, [], prs, su, fa⟩ ⟨tm, 12, ac, sb, nu, nm, vl⟩ from rfl)
  obtain ⟨W, hW, r0, r1, r2, hw0, hz⟩ := three_rows w (Obj.cells #[.int .i64 i1, .int .i64 i2, .int .i64 i3, .string i4, .slice none 0 0, .slice pa pn pc, .bool su, .bool fa] 181) (Obj.cells #[.int .i64 tm, .int .i64 12, .int .i64 ac, .int .i64 sb, .string nu, .string nm, .int .i64 vl] 55) (Obj.cells #[.int .i64 0, .int .i64 0, .int .i64 0, .string ⟨#[]⟩, .slice none 0 0, .slice none 0 0, .bool false, .bool false] 181)
  have T1 := Lib.hid g1
  have T6 := Lib.hid (And.intro g6 (And.intro g7 (And.intro hm hbs)))
  have HS2 := Lib.hid (HSt.out.below hw0)
  unfold sbVal evVal
  dsimp only
  have HW := Lib.hid hW
  have Hw0 := Lib.hid hw0
  have R0 := Lib.hid r0
  have R1 := Lib.hid r1
  have R2 := Lib.hid r2
  have a0 := cell_of_row W _ 0 _ _ _ R0.out
  have a1 := cell_of_row W _ 1 _ _ _ R0.out
  have a2 := cell_of_row W _ 2 _ _ _ R0.out
  have a3 := cell_of_row W _ 3 _ _ _ R0.out
  have a4 := cell_of_row W _ 4 _ _ _ R0.out
  have a5 := cell_of_row W _ 5 _ _ _ R0.out
  have a6 := cell_of_row W _ 6 _ _ _ R0.out
  have a7 := cell_of_row W _ 7 _ _ _ R0.out
  have b0 := cell_of_row W _ 0 _ _ _ R1.out
  have b1 := cell_of_row W _ 1 _ _ _ R1.out
  have b2 := cell_of_row W _ 2 _ _ _ R1.out
  have b3 := cell_of_row W _ 3 _ _ _ R1.out
  have b5 := cell_of_row W _ 5 _ _ _ R1.out
  have f3 := frozen_of_row W _ 3 _ _ R0.out
  have f4 := frozen_of_row W _ 4 _ _ R0.out
  have f5 := frozen_of_row W _ 5 _ _ R0.out
  have f6 := frozen_of_row W _ 6 _ _ R0.out
  have f7 := frozen_of_row W _ 7 _ _ R0.out
  obtain ⟨Z, hZ⟩ : ∃ Z, Z = (W.setCell ⟨w.heap.size, 7, none⟩ (.bool true)) := ⟨_, rfl⟩
  have Z0 := Lib.hid (show Z.heap[w.heap.size]? = some (Obj.cells #[.int .i64 i1, .int .i64 i2, .int .i64 i3, .string i4, .slice none 0 0, .slice pa pn pc, .bool su, .bool true] 181) by rw [hZ]; exact (row_set _ R0.out))
  have Z2 := Lib.hid (show Z.heap[w.heap.size + 1 + 1]? = some (Obj.cells #[.int .i64 0, .int .i64 0, .int .i64 0, .string ⟨#[]⟩, .slice none 0 0, .slice none 0 0, .bool false, .bool false] 181) by rw [hZ]; exact (row_other R2.out (by omega)))
  have HbZ := Lib.hid (show Below w.heap.size w Z by rw [hZ]; exact (Hw0.out.setCell (Nat.le_refl _) _))
  have HZ := Lib.hid hZ
  clear hZ
  clear hW r0 r1 r2 hw0 g1 g6 g7 hm hbs
  go_enter Tryz.func193, Tryz.ntmps193
  go_upto_region 1 with (fail)
  rw [← HW.out]
  go_upto_region 18 with (fail)
  rw [← HZ.out]
  clear a0 a1 a2 a3 a4 a5 a6 a7 b0 b1 b2 b3 b5 f3 f4 f5 f6 f7
  have z0 := cell_of_row Z _ 0 _ _ _ Z0.out
  have z1 := cell_of_row Z _ 1 _ _ _ Z0.out
  have z2 := cell_of_row Z _ 2 _ _ _ Z0.out
  have z3 := cell_of_row Z _ 3 _ _ _ Z0.out
  have z4 := cell_of_row Z _ 4 _ _ _ Z0.out
  have z5 := cell_of_row Z _ 5 _ _ _ Z0.out
  have z6 := cell_of_row Z _ 6 _ _ _ Z0.out
  have z7 := cell_of_row Z _ 7 _ _ _ Z0.out
  have HbF := Lib.hid (below_setRow1 HbZ.out (show w.heap.size ≤ w.heap.size + 1 + 1 by omega) #[.int .i64 i1, .int .i64 i2, .int .i64 i3, .string i4, .slice none 0 0, .slice pa pn pc, .bool su, .bool true])
  have t0 := cell_setRow_same Z (w.heap.size + 1 + 1) 0 _ #[.int .i64 i1, .int .i64 i2, .int .i64 i3, .string i4, .slice none 0 0, .slice pa pn pc, .bool su, .bool true] _ _ Z2.out
  have t1 := cell_setRow_same Z (w.heap.size + 1 + 1) 1 _ #[.int .i64 i1, .int .i64 i2, .int .i64 i3, .string i4, .slice none 0 0, .slice pa pn pc, .bool su, .bool true] _ _ Z2.out
  have t2 := cell_setRow_same Z (w.heap.size + 1 + 1) 2 _ #[.int .i64 i1, .int .i64 i2, .int .i64 i3, .string i4, .slice none 0 0, .slice pa pn pc, .bool su, .bool true] _ _ Z2.out
  have t3 := cell_setRow_same Z (w.heap.size + 1 + 1) 3 _ #[.int .i64 i1, .int .i64 i2, .int .i64 i3, .string i4, .slice none 0 0, .slice pa pn pc, .bool su, .bool true] _ _ Z2.out
  have t4 := cell_setRow_same Z (w.heap.size + 1 + 1) 4 _ #[.int .i64 i1, .int .i64 i2, .int .i64 i3, .string i4, .slice none 0 0, .slice pa pn pc, .bool su, .bool true] _ _ Z2.out
  have t5 := cell_setRow_same Z (w.heap.size + 1 + 1) 5 _ #[.int .i64 i1, .int .i64 i2, .int .i64 i3, .string i4, .slice none 0 0, .slice pa pn pc, .bool su, .bool true] _ _ Z2.out
  have t6 := cell_setRow_same Z (w.heap.size + 1 + 1) 6 _ #[.int .i64 i1, .int .i64 i2, .int .i64 i3, .string i4, .slice none 0 0, .slice pa pn pc, .bool su, .bool true] _ _ Z2.out
  have t7 := cell_setRow_same Z (w.heap.size + 1 + 1) 7 _ #[.int .i64 i1, .int .i64 i2, .int .i64 i3, .string i4, .slice none 0 0, .slice pa pn pc, .bool su, .bool true] _ _ Z2.out
  repeat (first | refine wpList_store_row rfl _ _ _ rfl (w.heap.size + 1 + 1) #[.int .i64 i1, .int .i64 i2, .int .i64 i3, .string i4, .slice none 0 0, .slice pa pn pc, .bool su, .bool true] rfl rfl 181 _ Z2.out (by kernel_rfl) rfl (by simp [Value.oneCell']) ?_ | go_step)
  refine bodyPost_ret (v := .agg #[.int .i64 i1, .int .i64 i2, .int .i64 i3, .string i4, .slice none 0 0, .slice pa pn pc, .bool su, .bool true]) (by simp [results, Tryz.results193, go_sem, t0, t1, t2, t3, t4, t5, t6, t7]) rfl ?_
  exact nxTo HCh.out (ownsRow_below T1.out HbF.out) T6.out.1 T6.out.2.1 HbF.out

set_option maxRecDepth 100000 in
set_option maxHeartbeats 6400000 in
theorem next_13 (base : Nat) (x : SbX) (ev : Ev) (w : World) (hk : ev.kd = 13) (h : SbO base w x) (hbs : base ≤ w.heap.size) (hm : ev.nm.size ≤ maxLen) (h2 : x.s.prs.length ≤ 10000) :
    Calls Tryz.prog 193 #[sbVal x, evVal ev] w (NxTo base (nextS x.s ev) w) := by
  have HSt := Lib.hid h.strs
  have HPl := Lib.hid h.plain
  obtain ⟨⟨i1, i2, i3, i4, nus, prs, su, fa⟩, na, nn, nc, pa, pn, pc⟩ := x
  obtain ⟨tm, kd, ac, sb, nu, nm, vl⟩ := ev
  obtain ⟨g1, g2, g3, g4, g5, g6, g7⟩ := h
  dsimp only at hk hm h2 HSt HPl g1 g2 g3 g4 g5 g6 g7
  subst g2 g3 g4 g5
  subst hk
  have HCh := Lib.hid (show (⟨i1, i2, i3, i4, [], prs, su, false⟩ : Sb) = nextS ⟨i1, i2, i3, i4, [], prs, su, fa⟩ ⟨tm, 13, ac, sb, nu, nm, vl⟩ from rfl)
  obtain ⟨W, hW, r0, r1, r2, hw0, hz⟩ := three_rows w (Obj.cells #[.int .i64 i1, .int .i64 i2, .int .i64 i3, .string i4, .slice none 0 0, .slice pa pn pc, .bool su, .bool fa] 181) (Obj.cells #[.int .i64 tm, .int .i64 13, .int .i64 ac, .int .i64 sb, .string nu, .string nm, .int .i64 vl] 55) (Obj.cells #[.int .i64 0, .int .i64 0, .int .i64 0, .string ⟨#[]⟩, .slice none 0 0, .slice none 0 0, .bool false, .bool false] 181)
  have T1 := Lib.hid g1
  have T6 := Lib.hid (And.intro g6 (And.intro g7 (And.intro hm hbs)))
  have HS2 := Lib.hid (HSt.out.below hw0)
  unfold sbVal evVal
  dsimp only
  have HW := Lib.hid hW
  have Hw0 := Lib.hid hw0
  have R0 := Lib.hid r0
  have R1 := Lib.hid r1
  have R2 := Lib.hid r2
  have a0 := cell_of_row W _ 0 _ _ _ R0.out
  have a1 := cell_of_row W _ 1 _ _ _ R0.out
  have a2 := cell_of_row W _ 2 _ _ _ R0.out
  have a3 := cell_of_row W _ 3 _ _ _ R0.out
  have a4 := cell_of_row W _ 4 _ _ _ R0.out
  have a5 := cell_of_row W _ 5 _ _ _ R0.out
  have a6 := cell_of_row W _ 6 _ _ _ R0.out
  have a7 := cell_of_row W _ 7 _ _ _ R0.out
  have b0 := cell_of_row W _ 0 _ _ _ R1.out
  have b1 := cell_of_row W _ 1 _ _ _ R1.out
  have b2 := cell_of_row W _ 2 _ _ _ R1.out
  have b3 := cell_of_row W _ 3 _ _ _ R1.out
  have b5 := cell_of_row W _ 5 _ _ _ R1.out
  have f3 := frozen_of_row W _ 3 _ _ R0.out
  have f4 := frozen_of_row W _ 4 _ _ R0.out
  have f5 := frozen_of_row W _ 5 _ _ R0.out
  have f6 := frozen_of_row W _ 6 _ _ R0.out
  have f7 := frozen_of_row W _ 7 _ _ R0.out
  obtain ⟨Z, hZ⟩ : ∃ Z, Z = (W.setCell ⟨w.heap.size, 7, none⟩ (.bool false)) := ⟨_, rfl⟩
  have Z0 := Lib.hid (show Z.heap[w.heap.size]? = some (Obj.cells #[.int .i64 i1, .int .i64 i2, .int .i64 i3, .string i4, .slice none 0 0, .slice pa pn pc, .bool su, .bool false] 181) by rw [hZ]; exact (row_set _ R0.out))
  have Z2 := Lib.hid (show Z.heap[w.heap.size + 1 + 1]? = some (Obj.cells #[.int .i64 0, .int .i64 0, .int .i64 0, .string ⟨#[]⟩, .slice none 0 0, .slice none 0 0, .bool false, .bool false] 181) by rw [hZ]; exact (row_other R2.out (by omega)))
  have HbZ := Lib.hid (show Below w.heap.size w Z by rw [hZ]; exact (Hw0.out.setCell (Nat.le_refl _) _))
  have HZ := Lib.hid hZ
  clear hZ
  clear hW r0 r1 r2 hw0 g1 g6 g7 hm hbs
  go_enter Tryz.func193, Tryz.ntmps193
  go_upto_region 1 with (fail)
  rw [← HW.out]
  go_upto_region 18 with (fail)
  rw [← HZ.out]
  clear a0 a1 a2 a3 a4 a5 a6 a7 b0 b1 b2 b3 b5 f3 f4 f5 f6 f7
  have z0 := cell_of_row Z _ 0 _ _ _ Z0.out
  have z1 := cell_of_row Z _ 1 _ _ _ Z0.out
  have z2 := cell_of_row Z _ 2 _ _ _ Z0.out
  have z3 := cell_of_row Z _ 3 _ _ _ Z0.out
  have z4 := cell_of_row Z _ 4 _ _ _ Z0.out
  have z5 := cell_of_row Z _ 5 _ _ _ Z0.out
  have z6 := cell_of_row Z _ 6 _ _ _ Z0.out
  have z7 := cell_of_row Z _ 7 _ _ _ Z0.out
  have HbF := Lib.hid (below_setRow1 HbZ.out (show w.heap.size ≤ w.heap.size + 1 + 1 by omega) #[.int .i64 i1, .int .i64 i2, .int .i64 i3, .string i4, .slice none 0 0, .slice pa pn pc, .bool su, .bool false])
  have t0 := cell_setRow_same Z (w.heap.size + 1 + 1) 0 _ #[.int .i64 i1, .int .i64 i2, .int .i64 i3, .string i4, .slice none 0 0, .slice pa pn pc, .bool su, .bool false] _ _ Z2.out
  have t1 := cell_setRow_same Z (w.heap.size + 1 + 1) 1 _ #[.int .i64 i1, .int .i64 i2, .int .i64 i3, .string i4, .slice none 0 0, .slice pa pn pc, .bool su, .bool false] _ _ Z2.out
  have t2 := cell_setRow_same Z (w.heap.size + 1 + 1) 2 _ #[.int .i64 i1, .int .i64 i2, .int .i64 i3, .string i4, .slice none 0 0, .slice pa pn pc, .bool su, .bool false] _ _ Z2.out
  have t3 := cell_setRow_same Z (w.heap.size + 1 + 1) 3 _ #[.int .i64 i1, .int .i64 i2, .int .i64 i3, .string i4, .slice none 0 0, .slice pa pn pc, .bool su, .bool false] _ _ Z2.out
  have t4 := cell_setRow_same Z (w.heap.size + 1 + 1) 4 _ #[.int .i64 i1, .int .i64 i2, .int .i64 i3, .string i4, .slice none 0 0, .slice pa pn pc, .bool su, .bool false] _ _ Z2.out
  have t5 := cell_setRow_same Z (w.heap.size + 1 + 1) 5 _ #[.int .i64 i1, .int .i64 i2, .int .i64 i3, .string i4, .slice none 0 0, .slice pa pn pc, .bool su, .bool false] _ _ Z2.out
  have t6 := cell_setRow_same Z (w.heap.size + 1 + 1) 6 _ #[.int .i64 i1, .int .i64 i2, .int .i64 i3, .string i4, .slice none 0 0, .slice pa pn pc, .bool su, .bool false] _ _ Z2.out
  have t7 := cell_setRow_same Z (w.heap.size + 1 + 1) 7 _ #[.int .i64 i1, .int .i64 i2, .int .i64 i3, .string i4, .slice none 0 0, .slice pa pn pc, .bool su, .bool false] _ _ Z2.out
  repeat (first | refine wpList_store_row rfl _ _ _ rfl (w.heap.size + 1 + 1) #[.int .i64 i1, .int .i64 i2, .int .i64 i3, .string i4, .slice none 0 0, .slice pa pn pc, .bool su, .bool false] rfl rfl 181 _ Z2.out (by kernel_rfl) rfl (by simp [Value.oneCell']) ?_ | go_step)
  refine bodyPost_ret (v := .agg #[.int .i64 i1, .int .i64 i2, .int .i64 i3, .string i4, .slice none 0 0, .slice pa pn pc, .bool su, .bool false]) (by simp [results, Tryz.results193, go_sem, t0, t1, t2, t3, t4, t5, t6, t7]) rfl ?_
  exact nxTo HCh.out (ownsRow_below T1.out HbF.out) T6.out.1 T6.out.2.1 HbF.out

set_option maxRecDepth 100000 in
set_option maxHeartbeats 6400000 in
theorem next_0 (base : Nat) (x : SbX) (ev : Ev) (w : World) (hk : ¬ (ev.kd = 3 ∨ ev.kd = 4 ∨ (7 ≤ ev.kd ∧ ev.kd ≤ 13))) (h : SbO base w x) (hbs : base ≤ w.heap.size) (hm : ev.nm.size ≤ maxLen) (h2 : x.s.prs.length ≤ 10000) :
    Calls Tryz.prog 193 #[sbVal x, evVal ev] w (NxTo base (nextS x.s ev) w) := by
  have HSt := Lib.hid h.strs
  have HPl := Lib.hid h.plain
  obtain ⟨⟨i1, i2, i3, i4, nus, prs, su, fa⟩, na, nn, nc, pa, pn, pc⟩ := x
  obtain ⟨tm, kd, ac, sb, nu, nm, vl⟩ := ev
  obtain ⟨g1, g2, g3, g4, g5, g6, g7⟩ := h
  dsimp only at hk hm h2 HSt HPl g1 g2 g3 g4 g5 g6 g7
  subst g2 g3 g4 g5
  have e3 : (kd == 3) = false := beq_eq_false_iff_ne.2 (by omega)
  have e4 : (kd == 4) = false := beq_eq_false_iff_ne.2 (by omega)
  have e7 : (kd == 7) = false := beq_eq_false_iff_ne.2 (by omega)
  have e8 : (kd == 8) = false := beq_eq_false_iff_ne.2 (by omega)
  have e9 : (kd == 9) = false := beq_eq_false_iff_ne.2 (by omega)
  have e10 : (kd == 10) = false := beq_eq_false_iff_ne.2 (by omega)
  have e11 : (kd == 11) = false := beq_eq_false_iff_ne.2 (by omega)
  have e12 : (kd == 12) = false := beq_eq_false_iff_ne.2 (by omega)
  have e13 : (kd == 13) = false := beq_eq_false_iff_ne.2 (by omega)
  have HCh := Lib.hid (show (⟨i1, i2, i3, i4, [], prs, su, fa⟩ : Sb) = nextS ⟨i1, i2, i3, i4, [], prs, su, fa⟩ ⟨tm, kd, ac, sb, nu, nm, vl⟩ from by unfold nextS; dsimp only; rw [if_neg (by omega), if_neg (by omega), if_neg (by omega), if_neg (by omega), if_neg (by omega), if_neg (by omega), if_neg (by omega)])
  obtain ⟨W, hW, r0, r1, r2, hw0, hz⟩ := three_rows w (Obj.cells #[.int .i64 i1, .int .i64 i2, .int .i64 i3, .string i4, .slice none 0 0, .slice pa pn pc, .bool su, .bool fa] 181) (Obj.cells #[.int .i64 tm, .int .i64 kd, .int .i64 ac, .int .i64 sb, .string nu, .string nm, .int .i64 vl] 55) (Obj.cells #[.int .i64 0, .int .i64 0, .int .i64 0, .string ⟨#[]⟩, .slice none 0 0, .slice none 0 0, .bool false, .bool false] 181)
  have T1 := Lib.hid g1
  have T6 := Lib.hid (And.intro g6 (And.intro g7 (And.intro hm hbs)))
  have HS2 := Lib.hid (HSt.out.below hw0)
  unfold sbVal evVal
  dsimp only
  have HW := Lib.hid hW
  have Hw0 := Lib.hid hw0
  have R0 := Lib.hid r0
  have R1 := Lib.hid r1
  have R2 := Lib.hid r2
  have a0 := cell_of_row W _ 0 _ _ _ R0.out
  have a1 := cell_of_row W _ 1 _ _ _ R0.out
  have a2 := cell_of_row W _ 2 _ _ _ R0.out
  have a3 := cell_of_row W _ 3 _ _ _ R0.out
  have a4 := cell_of_row W _ 4 _ _ _ R0.out
  have a5 := cell_of_row W _ 5 _ _ _ R0.out
  have a6 := cell_of_row W _ 6 _ _ _ R0.out
  have a7 := cell_of_row W _ 7 _ _ _ R0.out
  have b0 := cell_of_row W _ 0 _ _ _ R1.out
  have b1 := cell_of_row W _ 1 _ _ _ R1.out
  have b2 := cell_of_row W _ 2 _ _ _ R1.out
  have b3 := cell_of_row W _ 3 _ _ _ R1.out
  have b5 := cell_of_row W _ 5 _ _ _ R1.out
  have f3 := frozen_of_row W _ 3 _ _ R0.out
  have f4 := frozen_of_row W _ 4 _ _ R0.out
  have f5 := frozen_of_row W _ 5 _ _ R0.out
  have f6 := frozen_of_row W _ 6 _ _ R0.out
  have f7 := frozen_of_row W _ 7 _ _ R0.out
  obtain ⟨Z, hZ⟩ : ∃ Z, Z = W := ⟨_, rfl⟩
  have Z0 := Lib.hid (show Z.heap[w.heap.size]? = some (Obj.cells #[.int .i64 i1, .int .i64 i2, .int .i64 i3, .string i4, .slice none 0 0, .slice pa pn pc, .bool su, .bool fa] 181) by rw [hZ]; exact R0.out)
  have Z2 := Lib.hid (show Z.heap[w.heap.size + 1 + 1]? = some (Obj.cells #[.int .i64 0, .int .i64 0, .int .i64 0, .string ⟨#[]⟩, .slice none 0 0, .slice none 0 0, .bool false, .bool false] 181) by rw [hZ]; exact R2.out)
  have HbZ := Lib.hid (show Below w.heap.size w Z by rw [hZ]; exact Hw0.out)
  have HZ := Lib.hid hZ
  clear hZ
  clear hW r0 r1 r2 hw0 g1 g6 g7 hm hbs hk
  go_enter Tryz.func193, Tryz.ntmps193
  go_upto_region 1 with (fail)
  rw [← HW.out]
  go_upto_region 18 with (fail)
  rw [← HZ.out]
  clear a0 a1 a2 a3 a4 a5 a6 a7 b0 b1 b2 b3 b5 f3 f4 f5 f6 f7
  have z0 := cell_of_row Z _ 0 _ _ _ Z0.out
  have z1 := cell_of_row Z _ 1 _ _ _ Z0.out
  have z2 := cell_of_row Z _ 2 _ _ _ Z0.out
  have z3 := cell_of_row Z _ 3 _ _ _ Z0.out
  have z4 := cell_of_row Z _ 4 _ _ _ Z0.out
  have z5 := cell_of_row Z _ 5 _ _ _ Z0.out
  have z6 := cell_of_row Z _ 6 _ _ _ Z0.out
  have z7 := cell_of_row Z _ 7 _ _ _ Z0.out
  have HbF := Lib.hid (below_setRow1 HbZ.out (show w.heap.size ≤ w.heap.size + 1 + 1 by omega) #[.int .i64 i1, .int .i64 i2, .int .i64 i3, .string i4, .slice none 0 0, .slice pa pn pc, .bool su, .bool fa])
  have t0 := cell_setRow_same Z (w.heap.size + 1 + 1) 0 _ #[.int .i64 i1, .int .i64 i2, .int .i64 i3, .string i4, .slice none 0 0, .slice pa pn pc, .bool su, .bool fa] _ _ Z2.out
  have t1 := cell_setRow_same Z (w.heap.size + 1 + 1) 1 _ #[.int .i64 i1, .int .i64 i2, .int .i64 i3, .string i4, .slice none 0 0, .slice pa pn pc, .bool su, .bool fa] _ _ Z2.out
  have t2 := cell_setRow_same Z (w.heap.size + 1 + 1) 2 _ #[.int .i64 i1, .int .i64 i2, .int .i64 i3, .string i4, .slice none 0 0, .slice pa pn pc, .bool su, .bool fa] _ _ Z2.out
  have t3 := cell_setRow_same Z (w.heap.size + 1 + 1) 3 _ #[.int .i64 i1, .int .i64 i2, .int .i64 i3, .string i4, .slice none 0 0, .slice pa pn pc, .bool su, .bool fa] _ _ Z2.out
  have t4 := cell_setRow_same Z (w.heap.size + 1 + 1) 4 _ #[.int .i64 i1, .int .i64 i2, .int .i64 i3, .string i4, .slice none 0 0, .slice pa pn pc, .bool su, .bool fa] _ _ Z2.out
  have t5 := cell_setRow_same Z (w.heap.size + 1 + 1) 5 _ #[.int .i64 i1, .int .i64 i2, .int .i64 i3, .string i4, .slice none 0 0, .slice pa pn pc, .bool su, .bool fa] _ _ Z2.out
  have t6 := cell_setRow_same Z (w.heap.size + 1 + 1) 6 _ #[.int .i64 i1, .int .i64 i2, .int .i64 i3, .string i4, .slice none 0 0, .slice pa pn pc, .bool su, .bool fa] _ _ Z2.out
  have t7 := cell_setRow_same Z (w.heap.size + 1 + 1) 7 _ #[.int .i64 i1, .int .i64 i2, .int .i64 i3, .string i4, .slice none 0 0, .slice pa pn pc, .bool su, .bool fa] _ _ Z2.out
  repeat (first | refine wpList_store_row rfl _ _ _ rfl (w.heap.size + 1 + 1) #[.int .i64 i1, .int .i64 i2, .int .i64 i3, .string i4, .slice none 0 0, .slice pa pn pc, .bool su, .bool fa] rfl rfl 181 _ Z2.out (by kernel_rfl) rfl (by simp [Value.oneCell']) ?_ | go_step)
  refine bodyPost_ret (v := .agg #[.int .i64 i1, .int .i64 i2, .int .i64 i3, .string i4, .slice none 0 0, .slice pa pn pc, .bool su, .bool fa]) (by simp [results, Tryz.results193, go_sem, t0, t1, t2, t3, t4, t5, t6, t7]) rfl ?_
  exact nxTo HCh.out (ownsRow_below T1.out HbF.out) T6.out.1 T6.out.2.1 HbF.out

theorem next_calls (base : Nat) (x : SbX) (ev : Ev) (w : World) (h : SbO base w x) (hbs : base ≤ w.heap.size) (hm : ev.nm.size ≤ maxLen) (h2 : x.s.prs.length ≤ 10000) :
    Calls Tryz.prog 193 #[sbVal x, evVal ev] w (NxTo base (nextS x.s ev) w) := by
  rcases (show ev.kd = 3 ∨ ev.kd = 4 ∨ ev.kd = 7 ∨ ev.kd = 8 ∨ ev.kd = 9 ∨ ev.kd = 10 ∨ ev.kd = 11 ∨ ev.kd = 12 ∨ ev.kd = 13 ∨ ¬ (ev.kd = 3 ∨ ev.kd = 4 ∨ (7 ≤ ev.kd ∧ ev.kd ≤ 13)) by omega) with g | g | g | g | g | g | g | g | g | g
  · exact next_3 base x ev w g h hbs hm h2
  · exact next_4 base x ev w g h hbs hm h2
  · exact next_7 base x ev w g h hbs hm h2
  · exact next_8 base x ev w g h hbs hm h2
  · exact next_9 base x ev w g h hbs hm h2
  · exact next_10 base x ev w g h hbs hm h2
  · exact next_11 base x ev w g h hbs hm h2
  · exact next_12 base x ev w g h hbs hm h2
  · exact next_13 base x ev w g h hbs hm h2
  · exact next_0 base x ev w g h hbs hm h2
end Go.Proofs.YtngippiilgdnoaaGreat
