/-
  The walk of the reference's decimal texts.
-/
import Derived.Test.YtohmdohbmmbbkaaDoorMgbq
import Derived.Lib.ItoaNum
import Derived.Laws.IdiomStrings
import Derived.Deep.LoopGhost
import Derived.Deep.DeepCutAuto
namespace Go.Proofs.YtohmdohbmmbbkaaDoor
open Go.RowKit

/-- A digit's byte. -/
def digB (r : Int) : UInt8 := UInt8.ofNat (48 + r.toNat)
theorem conv1 (w : World) (r : Int) (h0 : 0 ≤ r) (h1 : r < 10) : (convert 107 9 (.slice (some ⟨w.heap.size, 0, none⟩) 1 1)).run Tryd.prog (w.alloc (Obj.cells #[.int .u8 (48 + r)] 5)) = .ok (.string ⟨#[digB r]⟩) (w.alloc (Obj.cells #[.int .u8 (48 + r)] 5)) := by
  have h := run_convert_bytes_back (P := Tryd.prog) (w.alloc (Obj.cells #[.int .u8 (48 + r)] 5)) 107 9 5 ⟨w.heap.size, 0, none⟩ 1 [digB r] Tryd.underlying107 Tryd.underlying5 Tryd.underlying9 (fun j hj => by
    obtain rfl : j = 0 := by simpa using hj
    have e : (⟨w.heap.size, 0, none⟩ : Addr).add 0 = ⟨w.heap.size, 0, none⟩ := rfl
    rw [e, cell_of_row _ _ 0 _ _ _ (heap_alloc_new _ _)]
    have : ((digB r).toNat : Int) = 48 + r := by
      unfold digB
      rw [UInt8.toNat_ofNat']
      have : (48 + r.toNat) % 2 ^ 8 = 48 + r.toNat := Nat.mod_eq_of_lt (by omega)
      rw [this]
      omega
    simp [this])
  exact h
theorem cat1 (b : UInt8) (l : List UInt8) : (⟨#[b]⟩ : ByteArray) ++ (⟨l.toArray⟩ : ByteArray) = ⟨(b :: l).toArray⟩ := ByteArray.ext (by simp [ByteArray.data_append])
/-- The digits still to come ahead of a text. -/
def restL (v : Nat) (t : List UInt8) : List UInt8 := if v = 0 then t else Lib.decDigits v ++ t
theorem restL_step (v : Nat) (t : List UInt8) (h : 0 < v) : restL v t = restL (v / 10) (UInt8.ofNat (48 + v % 10) :: t) := by
  unfold restL
  rw [if_neg (by omega), Lib.decDigits]
  by_cases h1 : v < 10
  · rw [dif_pos h1, if_pos (by omega), show v % 10 = v by omega]
    rfl
  · rw [dif_neg h1, if_neg (by omega), List.append_assoc]
    rfl
theorem restL_first (u : Nat) : Lib.decDigits u = restL (u / 10) [UInt8.ofNat (48 + u % 10)] := by
  unfold restL
  rw [Lib.decDigits]
  by_cases h1 : u < 10
  · rw [dif_pos h1, if_pos (by omega), show u % 10 = u by omega]
  · rw [dif_neg h1, if_neg (by omega)]

set_option maxRecDepth 100000 in
set_option maxHeartbeats 3200000 in
theorem number_calls (n : Int) (w : World) (h0 : 0 ≤ n) (h1 : n ≤ 9223372036854775807) : Calls Tryd.prog 58 #[.int .i64 n] w fun e w' => e = .returned (.string ⟨(Lib.decDigits n.toNat).toArray⟩) ∧ Below w.heap.size w w' := by
  obtain ⟨r, hr⟩ : ∃ r, n % 10 = r := ⟨_, rfl⟩
  obtain ⟨q, hq⟩ : ∃ q, n / 10 = q := ⟨_, rfl⟩
  have hr0 : 0 ≤ r := by omega
  have hr1 : r < 10 := by omega
  have hq0 : 0 ≤ q := by omega
  have hq1 : q ≤ 922337203685477580 := by omega
  have HD := Lib.hid (show Lib.decDigits n.toNat = restL q.toNat [digB r] by
    rw [restL_first, show n.toNat / 10 = q.toNat by omega, show n.toNat % 10 = r.toNat by omega]
    rfl)
  have hcv := conv1 w r hr0 hr1
  have HB := Lib.hid (show Below w.heap.size w (w.alloc (Obj.cells #[.int .u8 (48 + r)] 5)) from (Below.refl _ _).alloc (Nat.le_refl _) _)
  rw [HD.out]
  go_enter Tryd.func58, Tryd.ntmps58
  go_wp2_with fail
  have HQ0 := Lib.hid hq
  clear hr hq hcv
  go_loopg [0, 3] q.toNat (fun g n3 tx wx => ∃ (z : Int) (t : List UInt8), n3 = .int .i64 z ∧ RowKit.Hid (z = (g : Int)) ∧ tx = .string ⟨t.toArray⟩ ∧ restL g t = restL q.toNat [digB r] ∧ t.length + g ≤ 922337203685477581 ∧ Below w.heap.size w wx)
  case atStart => exact ⟨q, [digB r], by rw [HQ0.out], Lib.hid (by omega), rfl, rfl, by simp; omega, HB.out⟩
  case round =>
    obtain ⟨z, t, rfl, hz, rfl, hrest, hlen, hb⟩ := hrel
    have Hrest := Lib.hid hrest
    have Hb := Lib.hid hb
    clear hrest
    cases gk with
    | zero =>
      obtain rfl : z = 0 := by have := hz.out; omega
      have HE := Lib.hid (show t = restL q.toNat [digB r] by rw [← Hrest.out]; rfl)
      clear hz hlen hb
      go_wp2
      go_ret
      exact ⟨by rw [← HE.out]; rfl, Hb.out⟩
    | succ k =>
      have hzk := hz.out
      obtain ⟨r2, hr2⟩ : ∃ r2, z % 10 = r2 := ⟨_, rfl⟩
      obtain ⟨q2, hq2⟩ : ∃ q2, z / 10 = q2 := ⟨_, rfl⟩
      have e0 : 0 ≤ r2 := by omega
      have e1 : r2 < 10 := by omega
      have hq20 : 0 ≤ q2 := by omega
      have HQ := Lib.hid (show q2 = (((k + 1) / 10 : Nat) : Int) by omega)
      have HR := Lib.hid (show restL (k + 1) t = restL ((k + 1) / 10) (digB r2 :: t) by
        rw [restL_step (k + 1) t (by omega), show (k + 1) % 10 = r2.toNat by omega]
        rfl)
      have hz0 : 0 < z := by omega
      have hz00 : 0 ≤ z := by omega
      have hcv := conv1 wr r2 e0 e1
      have hct := cat1 (digB r2) t
      have hl1 : ¬ 9223372036854775807 < 1 + t.length := by omega
      have hl2 : 1 + t.length ≤ 9223372036854775807 := by omega
      have hw1 : IntKind.i64.wrap (48 + r2) = 48 + r2 := IntWalk.i64_in _ (by omega)
      have htd : z.tdiv 10 = q2 := by rw [Int.tdiv_eq_ediv_of_nonneg hz00]; exact hq2
      have HW3 := Lib.hid (show wrap64 (z.tdiv 10) = q2 by rw [htd]; unfold wrap64; omega)
      have HbA := Lib.hid (Hb.out.alloc hb.size (Obj.cells #[.int .u8 (48 + r2)] 5))
      have Hk := Lib.hid (show (k + 1) / 10 < k + 1 by omega)
      have Hlen := Lib.hid (show (digB r2 :: t).length + (k + 1) / 10 ≤ 922337203685477581 by rw [List.length_cons]; omega)
      clear hzk hz hb hlen htd
      go_wp2
      go_roundg ((k + 1) / 10)
      case measure => have := Hk.out; omega
      case rel => exact ⟨q2, digB r2 :: t, by first | rfl | exact congrArg (Value.int .i64) HW3.out, HQ, by first | rfl | rw [hct], by rw [← Hrest.out, HR.out], Hlen.out, HbA.out⟩
end Go.Proofs.YtohmdohbmmbbkaaDoor
