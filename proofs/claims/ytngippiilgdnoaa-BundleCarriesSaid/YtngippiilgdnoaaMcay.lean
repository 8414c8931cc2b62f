/-
  The walk of Check: a list of events that is accepted.
-/
import Derived.Test.YtngippiilgdnoaaMcax
import Derived.Test.YtngippiilgdnoaaMcac
import Derived.Test.YtngippiilgdnoaaMcaq
import Derived.Test.YtngippiilgdnoaaMcat
set_option maxRecDepth 100000
set_option maxHeartbeats 25600000
namespace Go.Proofs.Ytngippiilgdnoaa
open Go.RowKit
theorem sb_one (x : SbX) : ∀ u ∈ sbCells x, u.oneCell' = true := by
 intro u hu
 simp only [sbCells, List.mem_cons, List.not_mem_nil, or_false] at hu
 rcases hu with rfl | rfl | rfl | rfl | rfl | rfl | rfl | rfl <;> rfl
theorem own_setRow1 {w : World} {base : Nat} {e : TypeId} {sz n g : Nat} {v : Value} {xs : List Value} (h : w.ownsRow base e sz v n xs) (hg : v.ownBlock ≠ some g) (cs : Array Value) : (w.setRow g cs).ownsRow base e sz v n xs := by
 obtain ⟨h1, h2⟩ := h
 refine ⟨h1, ?_⟩
 rcases h2 with h2 | ⟨g', cap, cur, hv, hg', hh, r⟩
 · exact Or.inl h2
 exact Or.inr ⟨g', cap, cur, hv, hg', by rw [setRow_other _ _ _ _ (by intro e; subst hv; exact hg (by rw [← e]; rfl))]; exact hh, r⟩
theorem own_setCell1 {w : World} {base : Nat} {e : TypeId} {sz n g j : Nat} {v u : Value} {xs : List Value} (h : w.ownsRow base e sz v n xs) (hg : v.ownBlock ≠ some g) : (w.setCell ⟨g, j, none⟩ u).ownsRow base e sz v n xs := by
 obtain ⟨h1, h2⟩ := h
 refine ⟨h1, ?_⟩
 rcases h2 with h2 | ⟨g', cap, cur, hv, hg', hh, r⟩
 · exact Or.inl h2
 exact Or.inr ⟨g', cap, cur, hv, hg', row_other hh (by intro e; subst hv; exact hg (by rw [← e]; rfl)), r⟩
def PaIn (B : Nat) (Y : List SbX) (x : SbX) : Prop := (∃ y ∈ Y, x.pa = y.pa) ∨ FreshA B x.pa
theorem PaIn.old {B : Nat} {Y : List SbX} {x : SbX} (h : x ∈ Y) : PaIn B Y x := Or.inl ⟨x, h, rfl⟩
def StrsOwn (N : List ByteArray) (w : World) (e : Ending) (w' : World) : Prop := ∃ (a : Option Addr) (n c : Nat), e = .returned (.slice a n c) ∧ w'.ownsRow w.heap.size 9 1 (.slice a n c) N.length (N.flatMap strCells) ∧ Below w.heap.size w w'
theorem strsOwn {N R : List ByteArray} {w w' : World} {a : Option Addr} {c : Nat} (h : w'.ownsRow w.heap.size 9 1 (.slice a R.length c) R.length (R.flatMap strCells)) (hR : R = N) (hb : Below w.heap.size w w') : StrsOwn N w (.returned (.slice a R.length c)) w' := by
 subst hR; exact ⟨a, _, c, rfl, h, hb⟩
theorem swith_calls (v : Value) (L : List ByteArray) (s : ByteArray) (w : World) (h : StrsAt w v L) (hp : ∀ a n c, v = .slice a n c → PlainA a) (hl : L.length ≤ 10000) :
 Calls Try.prog 70 #[v, .string s] w (StrsOwn (withT L s) w) := by
 have HA := hZ9 h
 have HR := hZ9 (rec_of_strs h)
 obtain ⟨aa, an, rfl, hla, hma, hxx⟩ := h
 have hma1 := hma.1
 unfold maxLen at hma1
 cases aa with
 | none =>
  obtain rfl := hma.2 rfl
  obtain rfl : L = [] := List.length_eq_zero_iff.1 (by omega)
  have HK := hZ9 (show kW [] s = 0 from rfl)
  have hk : 0 ≤ ([] : List ByteArray).length := Nat.le_refl _
  obtain ⟨L, hL⟩ : ∃ L : List ByteArray, L = [] := ⟨_, rfl⟩
  have HL := hZ9 hL
  clear hma hxx hp
  go_enter Try.func70, Try.ntmps70
  go_wp2_with fail
  go_loop [5] (fun i => i = .int .i64 0) (fun _ => 0)
  case atStart => exact rfl
  case round =>
   obtain rfl := hrel
   go_upto_region 4 with (fail)
   have hbY : Below w.heap.size w w := Below.refl _ _
   have hown0 : w.ownsRow w.heap.size 9 1 (.slice none 0 0) 0 [] := World.ownsRow_nil _ _ _ _
   have Hown0 := hZ9 hown0
   have HbY := hZ9 hbY
   have hbs := hbY.size
   have HT := hZ9 (RecAt.below (sliceAt_take HR.out 0 hk : RecAt strCells 1 w _ _) hbY)
   have HD := hZ9 (sliceAt_drop HR.out 0 hk : RecAt strCells 1 w _ _)
   have HWt := hZ9 (show ([] : List ByteArray).take 0 ++ [s] ++ ([] : List ByteArray).drop 0 = withT [] s by unfold withT; rw [HK.out])
   obtain ⟨T, hT⟩ : ∃ T, T = ([] : List ByteArray).take 0 := ⟨_, rfl⟩
   obtain ⟨D, hD⟩ : ∃ D, D = ([] : List ByteArray).drop 0 := ⟨_, rfl⟩
   have hTb : T.length ≤ 10000 := by rw [hT, List.length_take]; omega
   have hDb : D.length ≤ 10000 := by rw [hD, List.length_drop]; omega
   rw [← hT] at HT HWt
   rw [← hD] at HD HWt
   clear hT hD hbY hown0
   go_wp2_with (at_builtin; refine append_txs rfl _ _ rfl w.heap.size hbs _ _ [] T rfl rfl Hown0.out ?hX1 ?hl1 ?_)
   case hX1 => exact HT.out
   case hl1 => first | omega | (simp; omega)
   intro P5 hP5 v5 w5 own5 hb5
   obtain rfl : T = P5 := hP5.out.symm
   clear hP5
   have Hb5 := hZ9 (HbY.out.trans hb5)
   have Own5 := hZ9 own5
   have hbs5 := Hb5.out.size
   obtain ⟨a5, c5, rfl, -, -⟩ := own_shape own5
   clear own5 hb5
   have HX2 := hZ9 (RecAt.one (c := strCells) (sz := 1) w5 s 9 #[.string s] rfl)
   go_wp2_with (at_builtin; refine append_txs rfl _ _ rfl w.heap.size ?hs2 _ _ T [s] rfl rfl (Own5.out.alloc _) HX2.out ?hl2 ?_)
   case hs2 => simp; omega
   case hl2 => simp; omega
   intro R6 hR6 v6 w6 own6 hb6
   have Hb6 := hZ9 ((Hb5.out.alloc hbs5 (Obj.cells #[.string s] 9)).trans hb6)
   have HR6 := hZ9 hR6.out
   have hR6l : R6.length ≤ 10001 := by rw [hR6.out, List.length_append, List.length_singleton]; omega
   have hbs6 := Hb6.out.size
   obtain ⟨a6, c6, rfl, -, -⟩ := own_shape own6
   have Own6 := hZ9 own6
   clear own6 hb6 hR6
   have HD := hZ9 (RecAt.below HD.out Hb6.out)
   have HF := hZ9 (fun (R : List ByteArray) (h : R = R6 ++ D) => (h.trans (by rw [HR6.out, HWt.out]) : R = withT [] s))
   go_wp2_with (at_builtin; refine append_txs rfl _ _ rfl w.heap.size ?hs3 _ _ R6 D rfl rfl Own6.out ?hX3 ?hl3 ?_)
   case hs3 => exact hbs6
   case hX3 => exact HD.out
   case hl3 => omega
   intro R hR v7 w7 own7 hb7
   have Hb7 := hZ9 (Hb6.out.trans hb7)
   have HRe := hZ9 (HF.out R hR.out)
   obtain ⟨a7, c7, rfl, -, -⟩ := own_shape own7
   have Own7 := hZ9 own7
   clear own7 hb7 hR
   go_wp2
   go_ret
   exact strsOwn Own7.out HRe.out Hb7.out
 | some ad =>
  obtain ⟨ab, ao, asp⟩ := ad
  obtain rfl : asp = none := hp _ _ _ rfl _ rfl
  clear hma hxx hp
  go_enter Try.func70, Try.ntmps70
  go_wp2_with fail
  go_loop [5] (fun i => ∃ k : Nat, k ≤ L.length ∧ i = .int .i64 k ∧ ∀ j (hj : j < L.length), j < k → Op.bytesLess L[j].toList s.toList = true) (fun i => L.length - (intOf i).toNat)
  case atStart => exact ⟨0, Nat.zero_le _, rfl, fun j _ h => by omega⟩
  case round =>
   obtain ⟨k, hk, rfl, hno⟩ := hrel
   have Hno := hZ9 hno
   clear hno
   have hk0 : (0 : Int) ≤ (k : Int) := Int.natCast_nonneg _
   by_cases hlt : k < L.length
   · have hk1 : (k : Int) < (L.length : Int) := by omega
     obtain ⟨a2, n2, e2, -, -, hx⟩ := HA.out
     cases e2
     obtain ⟨bb, o, e3, hB, hx⟩ := hx (by rintro rfl; cases hlt)
     cases e3
     obtain ⟨x0, -⟩ := hx k hlt
     rw [Nat.mul_one] at x0
     clear hx
     cases hb : Op.bytesLess L[k].toList s.toList with
     | true =>
      have HNx := hZ9 (show ∀ j (hj : j < L.length), j < k + 1 → Op.bytesLess L[j].toList s.toList = true from fun j hj hjk => by
       by_cases h : j = k
       · subst h; exact hb
       exact Hno.out j hj (by omega))
      generalize L[k] = a at *
      go_wp2
      exact ⟨⟨k + 1, by omega, by go_num, HNx.out⟩, by simp [intOf]; omega⟩
     | false =>
      have HK := hZ9 (kW_at hlt (fun j hj => Hno.out j (by omega) hj) hb)
      have Hlt := hZ9 hlt
      generalize L[k] = a at *
      go_upto_region 4 with (fail)
      have hbY : Below w.heap.size w w := Below.refl _ _
      have hown0 : w.ownsRow w.heap.size 9 1 (.slice none 0 0) 0 [] := World.ownsRow_nil _ _ _ _
      have Hown0 := hZ9 hown0
      have HbY := hZ9 hbY
      have hbs := hbY.size
      have HT := hZ9 (RecAt.below (sliceAt_take HR.out k hk : RecAt strCells 1 w _ _) hbY)
      have HD := hZ9 (sliceAt_drop HR.out k hk : RecAt strCells 1 w _ _)
      have HWt := hZ9 (show L.take k ++ [s] ++ L.drop k = withT L s by unfold withT; rw [HK.out])
      obtain ⟨T, hT⟩ : ∃ T, T = L.take k := ⟨_, rfl⟩
      obtain ⟨D, hD⟩ : ∃ D, D = L.drop k := ⟨_, rfl⟩
      have hTb : T.length ≤ 10000 := by rw [hT, List.length_take]; omega
      have hDb : D.length ≤ 10000 := by rw [hD, List.length_drop]; omega
      rw [← hT] at HT HWt
      rw [← hD] at HD HWt
      clear hT hD hbY hown0
      go_wp2_with (at_builtin; refine append_txs rfl _ _ rfl w.heap.size hbs _ _ [] T rfl rfl Hown0.out ?hX1 ?hl1 ?_)
      case hX1 => exact HT.out
      case hl1 => first | omega | (simp; omega)
      intro P5 hP5 v5 w5 own5 hb5
      obtain rfl : T = P5 := hP5.out.symm
      clear hP5
      have Hb5 := hZ9 (HbY.out.trans hb5)
      have Own5 := hZ9 own5
      have hbs5 := Hb5.out.size
      obtain ⟨a5, c5, rfl, -, -⟩ := own_shape own5
      clear own5 hb5
      have HX2 := hZ9 (RecAt.one (c := strCells) (sz := 1) w5 s 9 #[.string s] rfl)
      go_wp2_with (at_builtin; refine append_txs rfl _ _ rfl w.heap.size ?hs2 _ _ T [s] rfl rfl (Own5.out.alloc _) HX2.out ?hl2 ?_)
      case hs2 => simp; omega
      case hl2 => simp; omega
      intro R6 hR6 v6 w6 own6 hb6
      have Hb6 := hZ9 ((Hb5.out.alloc hbs5 (Obj.cells #[.string s] 9)).trans hb6)
      have HR6 := hZ9 hR6.out
      have hR6l : R6.length ≤ 10001 := by rw [hR6.out, List.length_append, List.length_singleton]; omega
      have hbs6 := Hb6.out.size
      obtain ⟨a6, c6, rfl, -, -⟩ := own_shape own6
      have Own6 := hZ9 own6
      clear own6 hb6 hR6
      have HD := hZ9 (RecAt.below HD.out Hb6.out)
      have HF := hZ9 (fun (R : List ByteArray) (h : R = R6 ++ D) => (h.trans (by rw [HR6.out, HWt.out]) : R = withT L s))
      by_cases hco : an = k
      · have HD := hZ9 (show RecAt strCells 1 w6 (.slice (some ⟨ab, ao, none⟩) (L.length - k) 0) D by
         have h := HD.out
         rw [if_pos hco, hco, Nat.sub_self] at h
         exact h)
        go_wp2_with (at_builtin; refine append_txs rfl _ _ rfl w.heap.size ?hs3 _ _ R6 D rfl rfl Own6.out ?hX3 ?hl3 ?_)
        case hs3 => exact hbs6
        case hX3 => exact HD.out
        case hl3 => omega
        intro R hR v7 w7 own7 hb7
        have Hb7 := hZ9 (Hb6.out.trans hb7)
        have HRe := hZ9 (HF.out R hR.out)
        obtain ⟨a7, c7, rfl, -, -⟩ := own_shape own7
        have Own7 := hZ9 own7
        clear own7 hb7 hR
        go_wp2
        go_ret
        exact strsOwn Own7.out HRe.out Hb7.out
      have HD := hZ9 (show RecAt strCells 1 w6 (.slice (some ⟨ab, ao + k, none⟩) (L.length - k) (an - k)) D by
       have h := HD.out
       rw [if_neg hco, Option.map_some, addr_at, Nat.mul_one] at h
       exact h)
      go_wp2_with (at_builtin; refine append_txs rfl _ _ rfl w.heap.size ?hs3 _ _ R6 D rfl rfl Own6.out ?hX3 ?hl3 ?_)
      case hs3 => exact hbs6
      case hX3 => exact HD.out
      case hl3 => omega
      intro R hR v7 w7 own7 hb7
      have Hb7 := hZ9 (Hb6.out.trans hb7)
      have HRe := hZ9 (HF.out R hR.out)
      obtain ⟨a7, c7, rfl, -, -⟩ := own_shape own7
      have Own7 := hZ9 own7
      clear own7 hb7 hR
      go_wp2
      go_ret
      exact strsOwn Own7.out HRe.out Hb7.out
   have HK := hZ9 (show kW L s = k by rw [kW_all (s := s) (fun j hj => Hno.out j hj (by omega))]; omega)
   have hkL : k = L.length := by omega
   have hnlt : ¬ (k : Int) < (L.length : Int) := by omega
   clear hkL
   go_upto_region 4 with (fail)
   have hbY : Below w.heap.size w w := Below.refl _ _
   have hown0 : w.ownsRow w.heap.size 9 1 (.slice none 0 0) 0 [] := World.ownsRow_nil _ _ _ _
   have Hown0 := hZ9 hown0
   have HbY := hZ9 hbY
   have hbs := hbY.size
   have HT := hZ9 (RecAt.below (sliceAt_take HR.out k hk : RecAt strCells 1 w _ _) hbY)
   have HD := hZ9 (sliceAt_drop HR.out k hk : RecAt strCells 1 w _ _)
   have HWt := hZ9 (show L.take k ++ [s] ++ L.drop k = withT L s by unfold withT; rw [HK.out])
   obtain ⟨T, hT⟩ : ∃ T, T = L.take k := ⟨_, rfl⟩
   obtain ⟨D, hD⟩ : ∃ D, D = L.drop k := ⟨_, rfl⟩
   have hTb : T.length ≤ 10000 := by rw [hT, List.length_take]; omega
   have hDb : D.length ≤ 10000 := by rw [hD, List.length_drop]; omega
   rw [← hT] at HT HWt
   rw [← hD] at HD HWt
   clear hT hD hbY hown0
   go_wp2_with (at_builtin; refine append_txs rfl _ _ rfl w.heap.size hbs _ _ [] T rfl rfl Hown0.out ?hX1 ?hl1 ?_)
   case hX1 => exact HT.out
   case hl1 => first | omega | (simp; omega)
   intro P5 hP5 v5 w5 own5 hb5
   obtain rfl : T = P5 := hP5.out.symm
   clear hP5
   have Hb5 := hZ9 (HbY.out.trans hb5)
   have Own5 := hZ9 own5
   have hbs5 := Hb5.out.size
   obtain ⟨a5, c5, rfl, -, -⟩ := own_shape own5
   clear own5 hb5
   have HX2 := hZ9 (RecAt.one (c := strCells) (sz := 1) w5 s 9 #[.string s] rfl)
   go_wp2_with (at_builtin; refine append_txs rfl _ _ rfl w.heap.size ?hs2 _ _ T [s] rfl rfl (Own5.out.alloc _) HX2.out ?hl2 ?_)
   case hs2 => simp; omega
   case hl2 => simp; omega
   intro R6 hR6 v6 w6 own6 hb6
   have Hb6 := hZ9 ((Hb5.out.alloc hbs5 (Obj.cells #[.string s] 9)).trans hb6)
   have HR6 := hZ9 hR6.out
   have hR6l : R6.length ≤ 10001 := by rw [hR6.out, List.length_append, List.length_singleton]; omega
   have hbs6 := Hb6.out.size
   obtain ⟨a6, c6, rfl, -, -⟩ := own_shape own6
   have Own6 := hZ9 own6
   clear own6 hb6 hR6
   have HD := hZ9 (RecAt.below HD.out Hb6.out)
   have HF := hZ9 (fun (R : List ByteArray) (h : R = R6 ++ D) => (h.trans (by rw [HR6.out, HWt.out]) : R = withT L s))
   by_cases hco : an = k
   · have HD := hZ9 (show RecAt strCells 1 w6 (.slice (some ⟨ab, ao, none⟩) (L.length - k) 0) D by
      have h := HD.out
      rw [if_pos hco, hco, Nat.sub_self] at h
      exact h)
     go_wp2_with (at_builtin; refine append_txs rfl _ _ rfl w.heap.size ?hs3 _ _ R6 D rfl rfl Own6.out ?hX3 ?hl3 ?_)
     case hs3 => exact hbs6
     case hX3 => exact HD.out
     case hl3 => omega
     intro R hR v7 w7 own7 hb7
     have Hb7 := hZ9 (Hb6.out.trans hb7)
     have HRe := hZ9 (HF.out R hR.out)
     obtain ⟨a7, c7, rfl, -, -⟩ := own_shape own7
     have Own7 := hZ9 own7
     clear own7 hb7 hR
     go_wp2
     go_ret
     exact strsOwn Own7.out HRe.out Hb7.out
   have HD := hZ9 (show RecAt strCells 1 w6 (.slice (some ⟨ab, ao + k, none⟩) (L.length - k) (an - k)) D by
    have h := HD.out
    rw [if_neg hco, Option.map_some, addr_at, Nat.mul_one] at h
    exact h)
   go_wp2_with (at_builtin; refine append_txs rfl _ _ rfl w.heap.size ?hs3 _ _ R6 D rfl rfl Own6.out ?hX3 ?hl3 ?_)
   case hs3 => exact hbs6
   case hX3 => exact HD.out
   case hl3 => omega
   intro R hR v7 w7 own7 hb7
   have Hb7 := hZ9 (Hb6.out.trans hb7)
   have HRe := hZ9 (HF.out R hR.out)
   obtain ⟨a7, c7, rfl, -, -⟩ := own_shape own7
   have Own7 := hZ9 own7
   clear own7 hb7 hR
   go_wp2
   go_ret
   exact strsOwn Own7.out HRe.out Hb7.out
theorem swithout_calls (v : Value) (L : List ByteArray) (s : ByteArray) (w : World) (h : StrsAt w v L) (hl : L.length ≤ 10000) :
 Calls Try.prog 71 #[v, .string s] w (StrsOwn (withoutT L s) w) := by
 have HA := hZ9 h
 have HLe := hZ9 (fun k => withoutT_len (L.take k) s)
 obtain ⟨aa, an, rfl, hla, hma, -⟩ := h
 have hma := hma.1
 unfold maxLen at hma
 go_enter Try.func71, Try.ntmps71
 go_wp2_with fail
 go_loopw [5, 10] (fun vo i wr => ∃ k : Nat, k ≤ L.length ∧ i = .int .i64 k ∧ wr.ownsRow w.heap.size 9 1 vo (withoutT (L.take k) s).length ((withoutT (L.take k) s).flatMap strCells) ∧ Below w.heap.size w wr) (fun _ i _ => L.length - (intOf i).toNat)
 case atStart => exact ⟨0, Nat.zero_le _, rfl, World.ownsRow_nil _ _ _ _, Below.refl _ _⟩
 case round =>
  obtain ⟨wo, rfl⟩ : ∃ wo : World, wo = wr := ⟨_, rfl⟩
  obtain ⟨k, hk, rfl, hown, hb⟩ := hrel
  obtain ⟨ao, co, rfl, hco, hcm⟩ := own_shape hown
  have Hown := hZ9 hown
  have Hb := hZ9 hb
  have hlk := HLe.out k
  rw [List.length_take] at hlk
  by_cases hlt : k < L.length
  · have hk1 : (k : Int) < (L.length : Int) := by omega
    have hk0 : (0 : Int) ≤ (k : Int) := Int.natCast_nonneg _
    have HS := hZ9 (withoutT_take L s k hlt)
    obtain ⟨a2, n2, e2, -, -, hx⟩ := HA.out.below hb
    cases e2
    obtain ⟨bb, o, rfl, hB, hx⟩ := hx (by rintro rfl; cases hlt)
    obtain ⟨x0, -⟩ := hx k hlt
    rw [Nat.mul_one] at x0
    clear hx hb hown
    obtain ⟨R, hR⟩ : ∃ R, R = withoutT (L.take k) s := ⟨_, rfl⟩
    rw [← hR] at HS Hown hlk hco ⊢
    clear hR
    generalize L[k] = a at *
    have hRb : R.length ≤ 10000 := by omega
    cases hq : sameS a s with
    | true =>
     have HE := hZ9 (HS.out.trans (if_pos hq))
     have hq1 : (a.toList == s.toList) = true := hq
     have hq2 : (a.toList != s.toList) = false := by rw [bne, hq1]; rfl
     clear hq
     go_wp2
     exact ⟨⟨k + 1, by omega, by go_num, by rw [HE.out]; exact Hown.out, Hb.out⟩, by simp [intOf]; omega⟩
    | false =>
     have HE := hZ9 (HS.out.trans (if_neg (by rw [hq]; decide)))
     have hq1 : (a.toList == s.toList) = false := hq
     have hq2 : (a.toList != s.toList) = true := by rw [bne, hq1]; rfl
     have hbs := Hb.out.size
     have HX := hZ9 (RecAt.one (c := strCells) (sz := 1) wo a 9 #[.string a] rfl)
     clear hq
     go_wp2_with (at_builtin; refine append_txs rfl _ _ rfl w.heap.size ?hs1 _ _ R [a] rfl rfl (Hown.out.alloc _) HX.out ?hl1 ?_)
     case hs1 => simp; omega
     case hl1 => simp; omega
     intro R2 hR2 v4 w4 own4 hb4
     have Hb4 := hZ9 ((Hb.out.alloc hbs (Obj.cells #[.string a] 9)).trans hb4)
     have Own4 := hZ9 own4
     have HR := hZ9 (hR2.out.trans HE.out.symm)
     clear own4 hb4 hR2
     go_wp2
     exact ⟨⟨k + 1, by omega, by go_num, by rw [← HR.out]; exact Own4.out, Hb4.out⟩, by simp [intOf]; omega⟩
  have HE := hZ9 (show withoutT (L.take k) s = withoutT L s by rw [List.take_of_length_le (by omega)])
  clear hb hown hlk
  obtain ⟨R, hR⟩ : ∃ R, R = withoutT (L.take k) s := ⟨_, rfl⟩
  rw [← hR] at HE Hown hco ⊢
  clear hR
  go_wp2
  go_ret
  exact strsOwn Hown.out HE.out Hb.out
structure SbO (base : Nat) (w : World) (x : SbX) : Prop where
 row : w.ownsRow base 9 1 (.slice x.pa x.pn x.pc) x.s.prs.length (x.s.prs.flatMap strCells)
 na : x.na = none
 nn : x.nn = 0
 nc : x.nc = 0
 nus : x.s.nus = []
 plan : x.s.plan.size ≤ maxLen
 sizes : ∀ p ∈ x.s.prs, p.size ≤ maxLen
theorem SbO.below {base : Nat} {w w' : World} {x : SbX} (h : SbO base w x) (hb : Below w.heap.size w w') : SbO base w' x := ⟨ownsRow_below h.row hb, h.na, h.nn, h.nc, h.nus, h.plan, h.sizes⟩
theorem SbO.strs {base : Nat} {w : World} {x : SbX} (h : SbO base w x) : StrsAt w (.slice x.pa x.pn x.pc) x.s.prs := strs_of_rec (RecAt.own (fun _ => rfl) h.row) h.sizes
theorem SbO.plain {base : Nat} {w : World} {x : SbX} (h : SbO base w x) : PlainA x.pa := (own_fresh h.row).plain
def NxTo (base : Nat) (s : Sb) (w : World) (e : Ending) (w' : World) : Prop := ∃ x : SbX, e = .returned (sbVal x) ∧ x.s = s ∧ SbO base w' x ∧ Below w.heap.size w w'
theorem nxTo {base : Nat} {s : Sb} {w w' : World} {i1 i2 i3 : Int} {i4 : ByteArray} {prs : List ByteArray} {su fa : Bool} {pa : Option Addr} {pn pc : Nat} (h : (⟨i1, i2, i3, i4, [], prs, su, fa⟩ : Sb) = s)
 (h1 : w'.ownsRow base 9 1 (.slice pa pn pc) prs.length (prs.flatMap strCells)) (h2 : i4.size ≤ maxLen) (h3 : ∀ p ∈ prs, p.size ≤ maxLen) (hb : Below w.heap.size w w') :
 NxTo base s w (.returned (.agg #[.int .i64 i1, .int .i64 i2, .int .i64 i3, .string i4, .slice none 0 0, .slice pa pn pc, .bool su, .bool fa])) w' :=
 ⟨⟨⟨i1, i2, i3, i4, [], prs, su, fa⟩, none, 0, 0, pa, pn, pc⟩, rfl, h, ⟨h1, rfl, rfl, rfl, rfl, h2, h3⟩, hb⟩
theorem next_3 (base : Nat) (x : SbX) (ev : Ev) (w : World) (hk : ev.kd = 3) (h : SbO base w x) (hbs : base ≤ w.heap.size) (hm : ev.nm.size ≤ maxLen) (h2 : x.s.prs.length ≤ 10000) :
 Calls Try.prog 57 #[sbVal x, evVal ev] w (NxTo base (nextS x.s ev) w) := by
 have HSt := hZ9 h.strs
 have HPl := hZ9 h.plain
 obtain ⟨⟨i1, i2, i3, i4, nus, prs, su, fa⟩, na, nn, nc, pa, pn, pc⟩ := x
 obtain ⟨tm, kd, ac, sb, nu, nm, vl⟩ := ev
 obtain ⟨g1, g2, g3, g4, g5, g6, g7⟩ := h
 dsimp only at hk hm h2 HSt HPl g1 g2 g3 g4 g5 g6 g7
 subst g2 g3 g4 g5
 subst hk
 have HCh := hZ9 (show (⟨sb, ac, tm, nm, [], [], false, false⟩ : Sb) = nextS ⟨i1, i2, i3, i4, [], prs, su, fa⟩ ⟨tm, 3, ac, sb, nu, nm, vl⟩ from rfl)
 obtain ⟨W, hW, r0, r1, r2, hw0, hz⟩ := three_rows w (Obj.cells #[.int .i64 i1, .int .i64 i2, .int .i64 i3, .string i4, .slice none 0 0, .slice pa pn pc, .bool su, .bool fa] 110) (Obj.cells #[.int .i64 tm, .int .i64 3, .int .i64 ac, .int .i64 sb, .string nu, .string nm, .int .i64 vl] 44) (Obj.cells #[.int .i64 0, .int .i64 0, .int .i64 0, .string ⟨#[]⟩, .slice none 0 0, .slice none 0 0, .bool false, .bool false] 110)
 have T1 := hZ9 g1
 have T6 := hZ9 (And.intro g6 (And.intro g7 (And.intro hm hbs)))
 have HS2 := hZ9 (HSt.out.below hw0)
 unfold sbVal evVal
 dsimp only
 have HW := hZ9 hW
 have Hw0 := hZ9 hw0
 have R0 := hZ9 r0
 have R1 := hZ9 r1
 have R2 := hZ9 r2
 have tQ := fun j => cell_of_row W _ j _ _ _ R0.out
 have a0 := tQ 0
 have a1 := tQ 1
 have a2 := tQ 2
 have a3 := tQ 3
 have a4 := tQ 4
 have a5 := tQ 5
 have a6 := tQ 6
 have a7 := tQ 7
 clear tQ
 have tQ := fun j => cell_of_row W _ j _ _ _ R1.out
 have b0 := tQ 0
 have b1 := tQ 1
 have b2 := tQ 2
 have b3 := tQ 3
 have b5 := tQ 5
 clear tQ
 have f3 := frozen_of_row W _ 3 _ _ R0.out
 have f4 := frozen_of_row W _ 4 _ _ R0.out
 have f5 := frozen_of_row W _ 5 _ _ R0.out
 have f6 := frozen_of_row W _ 6 _ _ R0.out
 have f7 := frozen_of_row W _ 7 _ _ R0.out
 clear hW r0 r1 r2 hw0 g1 g6 g7 hm hbs
 go_enter Try.func57, Try.ntmps57
 go_upto_region 1 with (fail)
 rw [← HW.out]
 have HbF := hZ9 (below_setRow1 Hw0.out (show w.heap.size ≤ w.heap.size + 1 + 1 by omega) #[.int .i64 sb, .int .i64 ac, .int .i64 tm, .string nm, .slice none 0 0, .slice none 0 0, .bool false, .bool false])
 have tQ := fun j => cell_setRow_same W (w.heap.size + 1 + 1) j _ #[.int .i64 sb, .int .i64 ac, .int .i64 tm, .string nm, .slice none 0 0, .slice none 0 0, .bool false, .bool false] _ _ R2.out
 have t0 := tQ 0
 have t1 := tQ 1
 have t2 := tQ 2
 have t3 := tQ 3
 have t4 := tQ 4
 have t5 := tQ 5
 have t6 := tQ 6
 have t7 := tQ 7
 clear tQ
 repeat (first | refine wpList_store_row rfl _ _ _ rfl (w.heap.size + 1 + 1) #[.int .i64 sb, .int .i64 ac, .int .i64 tm, .string nm, .slice none 0 0, .slice none 0 0, .bool false, .bool false] rfl rfl 110 _ R2.out (by kernel_rfl) rfl (by simp [Value.oneCell']) ?_ | go_step)
 refine bodyPost_ret (v := .agg #[.int .i64 sb, .int .i64 ac, .int .i64 tm, .string nm, .slice none 0 0, .slice none 0 0, .bool false, .bool false]) (by simp [results, Try.results57, go_sem, t0, t1, t2, t3, t4, t5, t6, t7]) rfl ?_
 exact nxTo HCh.out (World.ownsRow_nil _ _ _ _) T6.out.2.2.1 (fun _ h => by cases h) HbF.out
theorem next_4 (base : Nat) (x : SbX) (ev : Ev) (w : World) (hk : ev.kd = 4) (h : SbO base w x) (hbs : base ≤ w.heap.size) (hm : ev.nm.size ≤ maxLen) (h2 : x.s.prs.length ≤ 10000) :
 Calls Try.prog 57 #[sbVal x, evVal ev] w (NxTo base (nextS x.s ev) w) := by
 have HSt := hZ9 h.strs
 have HPl := hZ9 h.plain
 obtain ⟨⟨i1, i2, i3, i4, nus, prs, su, fa⟩, na, nn, nc, pa, pn, pc⟩ := x
 obtain ⟨tm, kd, ac, sb, nu, nm, vl⟩ := ev
 obtain ⟨g1, g2, g3, g4, g5, g6, g7⟩ := h
 dsimp only at hk hm h2 HSt HPl g1 g2 g3 g4 g5 g6 g7
 subst g2 g3 g4 g5
 subst hk
 have HCh := hZ9 (show (⟨0, 0, 0, ⟨#[]⟩, [], [], false, false⟩ : Sb) = nextS ⟨i1, i2, i3, i4, [], prs, su, fa⟩ ⟨tm, 4, ac, sb, nu, nm, vl⟩ from rfl)
 obtain ⟨W, hW, r0, r1, r2, hw0, hz⟩ := three_rows w (Obj.cells #[.int .i64 i1, .int .i64 i2, .int .i64 i3, .string i4, .slice none 0 0, .slice pa pn pc, .bool su, .bool fa] 110) (Obj.cells #[.int .i64 tm, .int .i64 4, .int .i64 ac, .int .i64 sb, .string nu, .string nm, .int .i64 vl] 44) (Obj.cells #[.int .i64 0, .int .i64 0, .int .i64 0, .string ⟨#[]⟩, .slice none 0 0, .slice none 0 0, .bool false, .bool false] 110)
 have T1 := hZ9 g1
 have T6 := hZ9 (And.intro g6 (And.intro g7 (And.intro hm hbs)))
 have HS2 := hZ9 (HSt.out.below hw0)
 unfold sbVal evVal
 dsimp only
 have HW := hZ9 hW
 have Hw0 := hZ9 hw0
 have R0 := hZ9 r0
 have R1 := hZ9 r1
 have R2 := hZ9 r2
 have tQ := fun j => cell_of_row W _ j _ _ _ R0.out
 have a0 := tQ 0
 have a1 := tQ 1
 have a2 := tQ 2
 have a3 := tQ 3
 have a4 := tQ 4
 have a5 := tQ 5
 have a6 := tQ 6
 have a7 := tQ 7
 clear tQ
 have tQ := fun j => cell_of_row W _ j _ _ _ R1.out
 have b0 := tQ 0
 have b1 := tQ 1
 have b2 := tQ 2
 have b3 := tQ 3
 have b5 := tQ 5
 clear tQ
 have f3 := frozen_of_row W _ 3 _ _ R0.out
 have f4 := frozen_of_row W _ 4 _ _ R0.out
 have f5 := frozen_of_row W _ 5 _ _ R0.out
 have f6 := frozen_of_row W _ 6 _ _ R0.out
 have f7 := frozen_of_row W _ 7 _ _ R0.out
 clear hW r0 r1 r2 hw0 g1 g6 g7 hm hbs
 go_enter Try.func57, Try.ntmps57
 go_upto_region 1 with (fail)
 rw [← HW.out]
 have HbF := hZ9 (below_setRow1 Hw0.out (show w.heap.size ≤ w.heap.size + 1 + 1 by omega) #[.int .i64 0, .int .i64 0, .int .i64 0, .string ⟨#[]⟩, .slice none 0 0, .slice none 0 0, .bool false, .bool false])
 have tQ := fun j => cell_setRow_same W (w.heap.size + 1 + 1) j _ #[.int .i64 0, .int .i64 0, .int .i64 0, .string ⟨#[]⟩, .slice none 0 0, .slice none 0 0, .bool false, .bool false] _ _ R2.out
 have t0 := tQ 0
 have t1 := tQ 1
 have t2 := tQ 2
 have t3 := tQ 3
 have t4 := tQ 4
 have t5 := tQ 5
 have t6 := tQ 6
 have t7 := tQ 7
 clear tQ
 repeat (first | refine wpList_store_row rfl _ _ _ rfl (w.heap.size + 1 + 1) #[.int .i64 0, .int .i64 0, .int .i64 0, .string ⟨#[]⟩, .slice none 0 0, .slice none 0 0, .bool false, .bool false] rfl rfl 110 _ R2.out (by kernel_rfl) rfl (by simp [Value.oneCell']) ?_ | go_step)
 refine bodyPost_ret (v := .agg #[.int .i64 0, .int .i64 0, .int .i64 0, .string ⟨#[]⟩, .slice none 0 0, .slice none 0 0, .bool false, .bool false]) (by simp [results, Try.results57, go_sem, t0, t1, t2, t3, t4, t5, t6, t7]) rfl ?_
 exact nxTo HCh.out (World.ownsRow_nil _ _ _ _) (Nat.zero_le _) (fun _ h => by cases h) HbF.out
theorem next_7 (base : Nat) (x : SbX) (ev : Ev) (w : World) (hk : ev.kd = 7) (h : SbO base w x) (hbs : base ≤ w.heap.size) (hm : ev.nm.size ≤ maxLen) (h2 : x.s.prs.length ≤ 10000) :
 Calls Try.prog 57 #[sbVal x, evVal ev] w (NxTo base (nextS x.s ev) w) := by
 have HSt := hZ9 h.strs
 have HPl := hZ9 h.plain
 obtain ⟨⟨i1, i2, i3, i4, nus, prs, su, fa⟩, na, nn, nc, pa, pn, pc⟩ := x
 obtain ⟨tm, kd, ac, sb, nu, nm, vl⟩ := ev
 obtain ⟨g1, g2, g3, g4, g5, g6, g7⟩ := h
 dsimp only at hk hm h2 HSt HPl g1 g2 g3 g4 g5 g6 g7
 subst g2 g3 g4 g5
 subst hk
 have HCh := hZ9 (show (⟨i1, i2, i3, nm, [], prs, su, fa⟩ : Sb) = nextS ⟨i1, i2, i3, i4, [], prs, su, fa⟩ ⟨tm, 7, ac, sb, nu, nm, vl⟩ from rfl)
 obtain ⟨W, hW, r0, r1, r2, hw0, hz⟩ := three_rows w (Obj.cells #[.int .i64 i1, .int .i64 i2, .int .i64 i3, .string i4, .slice none 0 0, .slice pa pn pc, .bool su, .bool fa] 110) (Obj.cells #[.int .i64 tm, .int .i64 7, .int .i64 ac, .int .i64 sb, .string nu, .string nm, .int .i64 vl] 44) (Obj.cells #[.int .i64 0, .int .i64 0, .int .i64 0, .string ⟨#[]⟩, .slice none 0 0, .slice none 0 0, .bool false, .bool false] 110)
 have T1 := hZ9 g1
 have T6 := hZ9 (And.intro g6 (And.intro g7 (And.intro hm hbs)))
 have HS2 := hZ9 (HSt.out.below hw0)
 unfold sbVal evVal
 dsimp only
 have HW := hZ9 hW
 have Hw0 := hZ9 hw0
 have R0 := hZ9 r0
 have R1 := hZ9 r1
 have R2 := hZ9 r2
 have tQ := fun j => cell_of_row W _ j _ _ _ R0.out
 have a0 := tQ 0
 have a1 := tQ 1
 have a2 := tQ 2
 have a3 := tQ 3
 have a4 := tQ 4
 have a5 := tQ 5
 have a6 := tQ 6
 have a7 := tQ 7
 clear tQ
 have tQ := fun j => cell_of_row W _ j _ _ _ R1.out
 have b0 := tQ 0
 have b1 := tQ 1
 have b2 := tQ 2
 have b3 := tQ 3
 have b5 := tQ 5
 clear tQ
 have f3 := frozen_of_row W _ 3 _ _ R0.out
 have f4 := frozen_of_row W _ 4 _ _ R0.out
 have f5 := frozen_of_row W _ 5 _ _ R0.out
 have f6 := frozen_of_row W _ 6 _ _ R0.out
 have f7 := frozen_of_row W _ 7 _ _ R0.out
 obtain ⟨Z, hZ⟩ : ∃ Z, Z = (W.setCell ⟨w.heap.size, 3, none⟩ (.string nm)) := ⟨_, rfl⟩
 have Z0 := hZ9 (show Z.heap[w.heap.size]? = some (Obj.cells #[.int .i64 i1, .int .i64 i2, .int .i64 i3, .string nm, .slice none 0 0, .slice pa pn pc, .bool su, .bool fa] 110) by rw [hZ]; exact (row_set _ R0.out))
 have Z2 := hZ9 (show Z.heap[w.heap.size + 1 + 1]? = some (Obj.cells #[.int .i64 0, .int .i64 0, .int .i64 0, .string ⟨#[]⟩, .slice none 0 0, .slice none 0 0, .bool false, .bool false] 110) by rw [hZ]; exact (row_other R2.out (by omega)))
 have HbZ := hZ9 (show Below w.heap.size w Z by rw [hZ]; exact (Hw0.out.setCell (Nat.le_refl _) _))
 have HZ := hZ9 hZ
 clear hZ
 clear hW r0 r1 r2 hw0 g1 g6 g7 hm hbs
 go_enter Try.func57, Try.ntmps57
 go_upto_region 1 with (fail)
 rw [← HW.out]
 go_upto_region 18 with (fail)
 rw [← HZ.out]
 clear a0 a1 a2 a3 a4 a5 a6 a7 b0 b1 b2 b3 b5 f3 f4 f5 f6 f7
 have tQ := fun j => cell_of_row Z _ j _ _ _ Z0.out
 have z0 := tQ 0
 have z1 := tQ 1
 have z2 := tQ 2
 have z3 := tQ 3
 have z4 := tQ 4
 have z5 := tQ 5
 have z6 := tQ 6
 have z7 := tQ 7
 clear tQ
 have HbF := hZ9 (below_setRow1 HbZ.out (show w.heap.size ≤ w.heap.size + 1 + 1 by omega) #[.int .i64 i1, .int .i64 i2, .int .i64 i3, .string nm, .slice none 0 0, .slice pa pn pc, .bool su, .bool fa])
 have tQ := fun j => cell_setRow_same Z (w.heap.size + 1 + 1) j _ #[.int .i64 i1, .int .i64 i2, .int .i64 i3, .string nm, .slice none 0 0, .slice pa pn pc, .bool su, .bool fa] _ _ Z2.out
 have t0 := tQ 0
 have t1 := tQ 1
 have t2 := tQ 2
 have t3 := tQ 3
 have t4 := tQ 4
 have t5 := tQ 5
 have t6 := tQ 6
 have t7 := tQ 7
 clear tQ
 repeat (first | refine wpList_store_row rfl _ _ _ rfl (w.heap.size + 1 + 1) #[.int .i64 i1, .int .i64 i2, .int .i64 i3, .string nm, .slice none 0 0, .slice pa pn pc, .bool su, .bool fa] rfl rfl 110 _ Z2.out (by kernel_rfl) rfl (by simp [Value.oneCell']) ?_ | go_step)
 refine bodyPost_ret (v := .agg #[.int .i64 i1, .int .i64 i2, .int .i64 i3, .string nm, .slice none 0 0, .slice pa pn pc, .bool su, .bool fa]) (by simp [results, Try.results57, go_sem, t0, t1, t2, t3, t4, t5, t6, t7]) rfl ?_
 exact nxTo HCh.out (ownsRow_below T1.out HbF.out) T6.out.2.2.1 T6.out.2.1 HbF.out
theorem next_8 (base : Nat) (x : SbX) (ev : Ev) (w : World) (hk : ev.kd = 8) (h : SbO base w x) (hbs : base ≤ w.heap.size) (hm : ev.nm.size ≤ maxLen) (h2 : x.s.prs.length ≤ 10000) :
 Calls Try.prog 57 #[sbVal x, evVal ev] w (NxTo base (nextS x.s ev) w) := by
 have HSt := hZ9 h.strs
 have HPl := hZ9 h.plain
 obtain ⟨⟨i1, i2, i3, i4, nus, prs, su, fa⟩, na, nn, nc, pa, pn, pc⟩ := x
 obtain ⟨tm, kd, ac, sb, nu, nm, vl⟩ := ev
 obtain ⟨g1, g2, g3, g4, g5, g6, g7⟩ := h
 dsimp only at hk hm h2 HSt HPl g1 g2 g3 g4 g5 g6 g7
 subst g2 g3 g4 g5
 subst hk
 have HCh := hZ9 (show (⟨i1, i2, i3, i4, [], withT prs nm, su, fa⟩ : Sb) = nextS ⟨i1, i2, i3, i4, [], prs, su, fa⟩ ⟨tm, 8, ac, sb, nu, nm, vl⟩ from rfl)
 obtain ⟨W, hW, r0, r1, r2, hw0, hz⟩ := three_rows w (Obj.cells #[.int .i64 i1, .int .i64 i2, .int .i64 i3, .string i4, .slice none 0 0, .slice pa pn pc, .bool su, .bool fa] 110) (Obj.cells #[.int .i64 tm, .int .i64 8, .int .i64 ac, .int .i64 sb, .string nu, .string nm, .int .i64 vl] 44) (Obj.cells #[.int .i64 0, .int .i64 0, .int .i64 0, .string ⟨#[]⟩, .slice none 0 0, .slice none 0 0, .bool false, .bool false] 110)
 have T1 := hZ9 g1
 have T6 := hZ9 (And.intro g6 (And.intro g7 (And.intro hm hbs)))
 have HS2 := hZ9 (HSt.out.below hw0)
 unfold sbVal evVal
 dsimp only
 have HW := hZ9 hW
 have Hw0 := hZ9 hw0
 have R0 := hZ9 r0
 have R1 := hZ9 r1
 have R2 := hZ9 r2
 have HCl := hZ9 (swith_calls _ _ nm W HS2.out (by intro a n c e; cases e; exact HPl.out) h2)
 have tQ := fun j => cell_of_row W _ j _ _ _ R0.out
 have a0 := tQ 0
 have a1 := tQ 1
 have a2 := tQ 2
 have a3 := tQ 3
 have a4 := tQ 4
 have a5 := tQ 5
 have a6 := tQ 6
 have a7 := tQ 7
 clear tQ
 have tQ := fun j => cell_of_row W _ j _ _ _ R1.out
 have b0 := tQ 0
 have b1 := tQ 1
 have b2 := tQ 2
 have b3 := tQ 3
 have b5 := tQ 5
 clear tQ
 have f3 := frozen_of_row W _ 3 _ _ R0.out
 have f4 := frozen_of_row W _ 4 _ _ R0.out
 have f5 := frozen_of_row W _ 5 _ _ R0.out
 have f6 := frozen_of_row W _ 6 _ _ R0.out
 have f7 := frozen_of_row W _ 7 _ _ R0.out
 clear hW r0 r1 r2 hw0 g1 g6 g7 hm hbs
 go_enter Try.func57, Try.ntmps57
 go_upto_region 1 with (fail)
 rw [← HW.out]
 go_wp2_with fail
 refine HCl.out.mono ?_
 rintro e w1 ⟨qa, qn, qc, rfl, hst, hb1⟩
 have Hst := hZ9 (own_down hst (show base ≤ W.heap.size by have := T6.out.2.2.2; have := Hw0.out.size; omega))
 have Hb1 := hZ9 (Hw0.out.trans (hb1.mono Hw0.out.size))
 have q0 := (hb1.block _ (by omega)).trans R0.out
 have q2 := (hb1.block _ hz).trans R2.out
 have Q0 := hZ9 q0
 have g5 := cell_of_row w1 _ 5 _ _ _ q0
 have gf := frozen_of_row w1 _ 5 _ _ q0
 obtain ⟨Z, hZ⟩ : ∃ Z, Z = w1.setCell ⟨w.heap.size, 5, none⟩ (.slice qa qn qc) := ⟨_, rfl⟩
 have Z0 := hZ9 (show Z.heap[w.heap.size]? = some (Obj.cells #[.int .i64 i1, .int .i64 i2, .int .i64 i3, .string i4, .slice none 0 0, .slice qa qn qc, .bool su, .bool fa] 110) by rw [hZ]; exact row_set _ q0)
 have Z2 := hZ9 (show Z.heap[w.heap.size + 1 + 1]? = some (Obj.cells #[.int .i64 0, .int .i64 0, .int .i64 0, .string ⟨#[]⟩, .slice none 0 0, .slice none 0 0, .bool false, .bool false] 110) by rw [hZ]; exact row_other q2 (by omega))
 have HbZ := hZ9 (show Below w.heap.size w Z by rw [hZ]; exact Hb1.out.setCell (Nat.le_refl _) _)
 have Hq := hZ9 (show Z.ownsRow base 9 1 (.slice qa qn qc) _ _ by rw [hZ]; exact own_setCell1 Hst.out (own_other Hst.out q0 (by decide)))
 have HZ := hZ9 hZ
 clear hZ q0 q2 hst hb1 a0 a1 a2 a3 a4 a5 a6 a7 b0 b1 b2 b3 b5 f3 f4 f5 f6 f7
 go_upto_region 18 with (fail)
 rw [← HZ.out]
 have tQ := fun j => cell_of_row Z _ j _ _ _ Z0.out
 have z0 := tQ 0
 have z1 := tQ 1
 have z2 := tQ 2
 have z3 := tQ 3
 have z4 := tQ 4
 have z5 := tQ 5
 have z6 := tQ 6
 have z7 := tQ 7
 clear tQ
 have HbF := hZ9 (below_setRow1 HbZ.out (show w.heap.size ≤ w.heap.size + 1 + 1 by omega) #[.int .i64 i1, .int .i64 i2, .int .i64 i3, .string i4, .slice none 0 0, .slice qa qn qc, .bool su, .bool fa])
 have tQ := fun j => cell_setRow_same Z (w.heap.size + 1 + 1) j _ #[.int .i64 i1, .int .i64 i2, .int .i64 i3, .string i4, .slice none 0 0, .slice qa qn qc, .bool su, .bool fa] _ _ Z2.out
 have t0 := tQ 0
 have t1 := tQ 1
 have t2 := tQ 2
 have t3 := tQ 3
 have t4 := tQ 4
 have t5 := tQ 5
 have t6 := tQ 6
 have t7 := tQ 7
 clear tQ
 repeat (first | refine wpList_store_row rfl _ _ _ rfl (w.heap.size + 1 + 1) #[.int .i64 i1, .int .i64 i2, .int .i64 i3, .string i4, .slice none 0 0, .slice qa qn qc, .bool su, .bool fa] rfl rfl 110 _ Z2.out (by kernel_rfl) rfl (by simp [Value.oneCell']) ?_ | go_step)
 refine bodyPost_ret (v := .agg #[.int .i64 i1, .int .i64 i2, .int .i64 i3, .string i4, .slice none 0 0, .slice qa qn qc, .bool su, .bool fa]) (by simp [results, Try.results57, go_sem, t0, t1, t2, t3, t4, t5, t6, t7]) rfl ?_
 exact nxTo HCh.out (own_setRow1 Hq.out (own_other Hq.out Z2.out (by decide)) _) T6.out.1 (withT_sizes T6.out.2.1 T6.out.2.2.1) HbF.out
theorem next_9 (base : Nat) (x : SbX) (ev : Ev) (w : World) (hk : ev.kd = 9) (h : SbO base w x) (hbs : base ≤ w.heap.size) (hm : ev.nm.size ≤ maxLen) (h2 : x.s.prs.length ≤ 10000) :
 Calls Try.prog 57 #[sbVal x, evVal ev] w (NxTo base (nextS x.s ev) w) := by
 have HSt := hZ9 h.strs
 have HPl := hZ9 h.plain
 obtain ⟨⟨i1, i2, i3, i4, nus, prs, su, fa⟩, na, nn, nc, pa, pn, pc⟩ := x
 obtain ⟨tm, kd, ac, sb, nu, nm, vl⟩ := ev
 obtain ⟨g1, g2, g3, g4, g5, g6, g7⟩ := h
 dsimp only at hk hm h2 HSt HPl g1 g2 g3 g4 g5 g6 g7
 subst g2 g3 g4 g5
 subst hk
 have HCh := hZ9 (show (⟨i1, i2, i3, i4, [], withoutT prs nm, su, fa⟩ : Sb) = nextS ⟨i1, i2, i3, i4, [], prs, su, fa⟩ ⟨tm, 9, ac, sb, nu, nm, vl⟩ from rfl)
 obtain ⟨W, hW, r0, r1, r2, hw0, hz⟩ := three_rows w (Obj.cells #[.int .i64 i1, .int .i64 i2, .int .i64 i3, .string i4, .slice none 0 0, .slice pa pn pc, .bool su, .bool fa] 110) (Obj.cells #[.int .i64 tm, .int .i64 9, .int .i64 ac, .int .i64 sb, .string nu, .string nm, .int .i64 vl] 44) (Obj.cells #[.int .i64 0, .int .i64 0, .int .i64 0, .string ⟨#[]⟩, .slice none 0 0, .slice none 0 0, .bool false, .bool false] 110)
 have T1 := hZ9 g1
 have T6 := hZ9 (And.intro g6 (And.intro g7 (And.intro hm hbs)))
 have HS2 := hZ9 (HSt.out.below hw0)
 unfold sbVal evVal
 dsimp only
 have HW := hZ9 hW
 have Hw0 := hZ9 hw0
 have R0 := hZ9 r0
 have R1 := hZ9 r1
 have R2 := hZ9 r2
 have HCl := hZ9 (swithout_calls _ _ nm W HS2.out h2)
 have tQ := fun j => cell_of_row W _ j _ _ _ R0.out
 have a0 := tQ 0
 have a1 := tQ 1
 have a2 := tQ 2
 have a3 := tQ 3
 have a4 := tQ 4
 have a5 := tQ 5
 have a6 := tQ 6
 have a7 := tQ 7
 clear tQ
 have tQ := fun j => cell_of_row W _ j _ _ _ R1.out
 have b0 := tQ 0
 have b1 := tQ 1
 have b2 := tQ 2
 have b3 := tQ 3
 have b5 := tQ 5
 clear tQ
 have f3 := frozen_of_row W _ 3 _ _ R0.out
 have f4 := frozen_of_row W _ 4 _ _ R0.out
 have f5 := frozen_of_row W _ 5 _ _ R0.out
 have f6 := frozen_of_row W _ 6 _ _ R0.out
 have f7 := frozen_of_row W _ 7 _ _ R0.out
 clear hW r0 r1 r2 hw0 g1 g6 g7 hm hbs
 go_enter Try.func57, Try.ntmps57
 go_upto_region 1 with (fail)
 rw [← HW.out]
 go_wp2_with fail
 refine HCl.out.mono ?_
 rintro e w1 ⟨qa, qn, qc, rfl, hst, hb1⟩
 have Hst := hZ9 (own_down hst (show base ≤ W.heap.size by have := T6.out.2.2.2; have := Hw0.out.size; omega))
 have Hb1 := hZ9 (Hw0.out.trans (hb1.mono Hw0.out.size))
 have q0 := (hb1.block _ (by omega)).trans R0.out
 have q2 := (hb1.block _ hz).trans R2.out
 have Q0 := hZ9 q0
 have g5 := cell_of_row w1 _ 5 _ _ _ q0
 have gf := frozen_of_row w1 _ 5 _ _ q0
 obtain ⟨Z, hZ⟩ : ∃ Z, Z = w1.setCell ⟨w.heap.size, 5, none⟩ (.slice qa qn qc) := ⟨_, rfl⟩
 have Z0 := hZ9 (show Z.heap[w.heap.size]? = some (Obj.cells #[.int .i64 i1, .int .i64 i2, .int .i64 i3, .string i4, .slice none 0 0, .slice qa qn qc, .bool su, .bool fa] 110) by rw [hZ]; exact row_set _ q0)
 have Z2 := hZ9 (show Z.heap[w.heap.size + 1 + 1]? = some (Obj.cells #[.int .i64 0, .int .i64 0, .int .i64 0, .string ⟨#[]⟩, .slice none 0 0, .slice none 0 0, .bool false, .bool false] 110) by rw [hZ]; exact row_other q2 (by omega))
 have HbZ := hZ9 (show Below w.heap.size w Z by rw [hZ]; exact Hb1.out.setCell (Nat.le_refl _) _)
 have Hq := hZ9 (show Z.ownsRow base 9 1 (.slice qa qn qc) _ _ by rw [hZ]; exact own_setCell1 Hst.out (own_other Hst.out q0 (by decide)))
 have HZ := hZ9 hZ
 clear hZ q0 q2 hst hb1 a0 a1 a2 a3 a4 a5 a6 a7 b0 b1 b2 b3 b5 f3 f4 f5 f6 f7
 go_upto_region 18 with (fail)
 rw [← HZ.out]
 have tQ := fun j => cell_of_row Z _ j _ _ _ Z0.out
 have z0 := tQ 0
 have z1 := tQ 1
 have z2 := tQ 2
 have z3 := tQ 3
 have z4 := tQ 4
 have z5 := tQ 5
 have z6 := tQ 6
 have z7 := tQ 7
 clear tQ
 have HbF := hZ9 (below_setRow1 HbZ.out (show w.heap.size ≤ w.heap.size + 1 + 1 by omega) #[.int .i64 i1, .int .i64 i2, .int .i64 i3, .string i4, .slice none 0 0, .slice qa qn qc, .bool su, .bool fa])
 have tQ := fun j => cell_setRow_same Z (w.heap.size + 1 + 1) j _ #[.int .i64 i1, .int .i64 i2, .int .i64 i3, .string i4, .slice none 0 0, .slice qa qn qc, .bool su, .bool fa] _ _ Z2.out
 have t0 := tQ 0
 have t1 := tQ 1
 have t2 := tQ 2
 have t3 := tQ 3
 have t4 := tQ 4
 have t5 := tQ 5
 have t6 := tQ 6
 have t7 := tQ 7
 clear tQ
 repeat (first | refine wpList_store_row rfl _ _ _ rfl (w.heap.size + 1 + 1) #[.int .i64 i1, .int .i64 i2, .int .i64 i3, .string i4, .slice none 0 0, .slice qa qn qc, .bool su, .bool fa] rfl rfl 110 _ Z2.out (by kernel_rfl) rfl (by simp [Value.oneCell']) ?_ | go_step)
 refine bodyPost_ret (v := .agg #[.int .i64 i1, .int .i64 i2, .int .i64 i3, .string i4, .slice none 0 0, .slice qa qn qc, .bool su, .bool fa]) (by simp [results, Try.results57, go_sem, t0, t1, t2, t3, t4, t5, t6, t7]) rfl ?_
 exact nxTo HCh.out (own_setRow1 Hq.out (own_other Hq.out Z2.out (by decide)) _) T6.out.1 (withoutT_sizes T6.out.2.1) HbF.out
theorem next_10 (base : Nat) (x : SbX) (ev : Ev) (w : World) (hk : ev.kd = 10) (h : SbO base w x) (hbs : base ≤ w.heap.size) (hm : ev.nm.size ≤ maxLen) (h2 : x.s.prs.length ≤ 10000) :
 Calls Try.prog 57 #[sbVal x, evVal ev] w (NxTo base (nextS x.s ev) w) := by
 have HSt := hZ9 h.strs
 have HPl := hZ9 h.plain
 obtain ⟨⟨i1, i2, i3, i4, nus, prs, su, fa⟩, na, nn, nc, pa, pn, pc⟩ := x
 obtain ⟨tm, kd, ac, sb, nu, nm, vl⟩ := ev
 obtain ⟨g1, g2, g3, g4, g5, g6, g7⟩ := h
 dsimp only at hk hm h2 HSt HPl g1 g2 g3 g4 g5 g6 g7
 subst g2 g3 g4 g5
 subst hk
 have HCh := hZ9 (show (⟨i1, i2, i3, i4, [], prs, true, fa⟩ : Sb) = nextS ⟨i1, i2, i3, i4, [], prs, su, fa⟩ ⟨tm, 10, ac, sb, nu, nm, vl⟩ from rfl)
 obtain ⟨W, hW, r0, r1, r2, hw0, hz⟩ := three_rows w (Obj.cells #[.int .i64 i1, .int .i64 i2, .int .i64 i3, .string i4, .slice none 0 0, .slice pa pn pc, .bool su, .bool fa] 110) (Obj.cells #[.int .i64 tm, .int .i64 10, .int .i64 ac, .int .i64 sb, .string nu, .string nm, .int .i64 vl] 44) (Obj.cells #[.int .i64 0, .int .i64 0, .int .i64 0, .string ⟨#[]⟩, .slice none 0 0, .slice none 0 0, .bool false, .bool false] 110)
 have T1 := hZ9 g1
 have T6 := hZ9 (And.intro g6 (And.intro g7 (And.intro hm hbs)))
 have HS2 := hZ9 (HSt.out.below hw0)
 unfold sbVal evVal
 dsimp only
 have HW := hZ9 hW
 have Hw0 := hZ9 hw0
 have R0 := hZ9 r0
 have R1 := hZ9 r1
 have R2 := hZ9 r2
 have tQ := fun j => cell_of_row W _ j _ _ _ R0.out
 have a0 := tQ 0
 have a1 := tQ 1
 have a2 := tQ 2
 have a3 := tQ 3
 have a4 := tQ 4
 have a5 := tQ 5
 have a6 := tQ 6
 have a7 := tQ 7
 clear tQ
 have tQ := fun j => cell_of_row W _ j _ _ _ R1.out
 have b0 := tQ 0
 have b1 := tQ 1
 have b2 := tQ 2
 have b3 := tQ 3
 have b5 := tQ 5
 clear tQ
 have f3 := frozen_of_row W _ 3 _ _ R0.out
 have f4 := frozen_of_row W _ 4 _ _ R0.out
 have f5 := frozen_of_row W _ 5 _ _ R0.out
 have f6 := frozen_of_row W _ 6 _ _ R0.out
 have f7 := frozen_of_row W _ 7 _ _ R0.out
 obtain ⟨Z, hZ⟩ : ∃ Z, Z = (W.setCell ⟨w.heap.size, 6, none⟩ (.bool true)) := ⟨_, rfl⟩
 have Z0 := hZ9 (show Z.heap[w.heap.size]? = some (Obj.cells #[.int .i64 i1, .int .i64 i2, .int .i64 i3, .string i4, .slice none 0 0, .slice pa pn pc, .bool true, .bool fa] 110) by rw [hZ]; exact (row_set _ R0.out))
 have Z2 := hZ9 (show Z.heap[w.heap.size + 1 + 1]? = some (Obj.cells #[.int .i64 0, .int .i64 0, .int .i64 0, .string ⟨#[]⟩, .slice none 0 0, .slice none 0 0, .bool false, .bool false] 110) by rw [hZ]; exact (row_other R2.out (by omega)))
 have HbZ := hZ9 (show Below w.heap.size w Z by rw [hZ]; exact (Hw0.out.setCell (Nat.le_refl _) _))
 have HZ := hZ9 hZ
 clear hZ
 clear hW r0 r1 r2 hw0 g1 g6 g7 hm hbs
 go_enter Try.func57, Try.ntmps57
 go_upto_region 1 with (fail)
 rw [← HW.out]
 go_upto_region 18 with (fail)
 rw [← HZ.out]
 clear a0 a1 a2 a3 a4 a5 a6 a7 b0 b1 b2 b3 b5 f3 f4 f5 f6 f7
 have tQ := fun j => cell_of_row Z _ j _ _ _ Z0.out
 have z0 := tQ 0
 have z1 := tQ 1
 have z2 := tQ 2
 have z3 := tQ 3
 have z4 := tQ 4
 have z5 := tQ 5
 have z6 := tQ 6
 have z7 := tQ 7
 clear tQ
 have HbF := hZ9 (below_setRow1 HbZ.out (show w.heap.size ≤ w.heap.size + 1 + 1 by omega) #[.int .i64 i1, .int .i64 i2, .int .i64 i3, .string i4, .slice none 0 0, .slice pa pn pc, .bool true, .bool fa])
 have tQ := fun j => cell_setRow_same Z (w.heap.size + 1 + 1) j _ #[.int .i64 i1, .int .i64 i2, .int .i64 i3, .string i4, .slice none 0 0, .slice pa pn pc, .bool true, .bool fa] _ _ Z2.out
 have t0 := tQ 0
 have t1 := tQ 1
 have t2 := tQ 2
 have t3 := tQ 3
 have t4 := tQ 4
 have t5 := tQ 5
 have t6 := tQ 6
 have t7 := tQ 7
 clear tQ
 repeat (first | refine wpList_store_row rfl _ _ _ rfl (w.heap.size + 1 + 1) #[.int .i64 i1, .int .i64 i2, .int .i64 i3, .string i4, .slice none 0 0, .slice pa pn pc, .bool true, .bool fa] rfl rfl 110 _ Z2.out (by kernel_rfl) rfl (by simp [Value.oneCell']) ?_ | go_step)
 refine bodyPost_ret (v := .agg #[.int .i64 i1, .int .i64 i2, .int .i64 i3, .string i4, .slice none 0 0, .slice pa pn pc, .bool true, .bool fa]) (by simp [results, Try.results57, go_sem, t0, t1, t2, t3, t4, t5, t6, t7]) rfl ?_
 exact nxTo HCh.out (ownsRow_below T1.out HbF.out) T6.out.1 T6.out.2.1 HbF.out
theorem next_11 (base : Nat) (x : SbX) (ev : Ev) (w : World) (hk : ev.kd = 11) (h : SbO base w x) (hbs : base ≤ w.heap.size) (hm : ev.nm.size ≤ maxLen) (h2 : x.s.prs.length ≤ 10000) :
 Calls Try.prog 57 #[sbVal x, evVal ev] w (NxTo base (nextS x.s ev) w) := by
 have HSt := hZ9 h.strs
 have HPl := hZ9 h.plain
 obtain ⟨⟨i1, i2, i3, i4, nus, prs, su, fa⟩, na, nn, nc, pa, pn, pc⟩ := x
 obtain ⟨tm, kd, ac, sb, nu, nm, vl⟩ := ev
 obtain ⟨g1, g2, g3, g4, g5, g6, g7⟩ := h
 dsimp only at hk hm h2 HSt HPl g1 g2 g3 g4 g5 g6 g7
 subst g2 g3 g4 g5
 subst hk
 have HCh := hZ9 (show (⟨i1, i2, i3, i4, [], prs, false, fa⟩ : Sb) = nextS ⟨i1, i2, i3, i4, [], prs, su, fa⟩ ⟨tm, 11, ac, sb, nu, nm, vl⟩ from rfl)
 obtain ⟨W, hW, r0, r1, r2, hw0, hz⟩ := three_rows w (Obj.cells #[.int .i64 i1, .int .i64 i2, .int .i64 i3, .string i4, .slice none 0 0, .slice pa pn pc, .bool su, .bool fa] 110) (Obj.cells #[.int .i64 tm, .int .i64 11, .int .i64 ac, .int .i64 sb, .string nu, .string nm, .int .i64 vl] 44) (Obj.cells #[.int .i64 0, .int .i64 0, .int .i64 0, .string ⟨#[]⟩, .slice none 0 0, .slice none 0 0, .bool false, .bool false] 110)
 have T1 := hZ9 g1
 have T6 := hZ9 (And.intro g6 (And.intro g7 (And.intro hm hbs)))
 have HS2 := hZ9 (HSt.out.below hw0)
 unfold sbVal evVal
 dsimp only
 have HW := hZ9 hW
 have Hw0 := hZ9 hw0
 have R0 := hZ9 r0
 have R1 := hZ9 r1
 have R2 := hZ9 r2
 have tQ := fun j => cell_of_row W _ j _ _ _ R0.out
 have a0 := tQ 0
 have a1 := tQ 1
 have a2 := tQ 2
 have a3 := tQ 3
 have a4 := tQ 4
 have a5 := tQ 5
 have a6 := tQ 6
 have a7 := tQ 7
 clear tQ
 have tQ := fun j => cell_of_row W _ j _ _ _ R1.out
 have b0 := tQ 0
 have b1 := tQ 1
 have b2 := tQ 2
 have b3 := tQ 3
 have b5 := tQ 5
 clear tQ
 have f3 := frozen_of_row W _ 3 _ _ R0.out
 have f4 := frozen_of_row W _ 4 _ _ R0.out
 have f5 := frozen_of_row W _ 5 _ _ R0.out
 have f6 := frozen_of_row W _ 6 _ _ R0.out
 have f7 := frozen_of_row W _ 7 _ _ R0.out
 obtain ⟨Z, hZ⟩ : ∃ Z, Z = (W.setCell ⟨w.heap.size, 6, none⟩ (.bool false)) := ⟨_, rfl⟩
 have Z0 := hZ9 (show Z.heap[w.heap.size]? = some (Obj.cells #[.int .i64 i1, .int .i64 i2, .int .i64 i3, .string i4, .slice none 0 0, .slice pa pn pc, .bool false, .bool fa] 110) by rw [hZ]; exact (row_set _ R0.out))
 have Z2 := hZ9 (show Z.heap[w.heap.size + 1 + 1]? = some (Obj.cells #[.int .i64 0, .int .i64 0, .int .i64 0, .string ⟨#[]⟩, .slice none 0 0, .slice none 0 0, .bool false, .bool false] 110) by rw [hZ]; exact (row_other R2.out (by omega)))
 have HbZ := hZ9 (show Below w.heap.size w Z by rw [hZ]; exact (Hw0.out.setCell (Nat.le_refl _) _))
 have HZ := hZ9 hZ
 clear hZ
 clear hW r0 r1 r2 hw0 g1 g6 g7 hm hbs
 go_enter Try.func57, Try.ntmps57
 go_upto_region 1 with (fail)
 rw [← HW.out]
 go_upto_region 18 with (fail)
 rw [← HZ.out]
 clear a0 a1 a2 a3 a4 a5 a6 a7 b0 b1 b2 b3 b5 f3 f4 f5 f6 f7
 have tQ := fun j => cell_of_row Z _ j _ _ _ Z0.out
 have z0 := tQ 0
 have z1 := tQ 1
 have z2 := tQ 2
 have z3 := tQ 3
 have z4 := tQ 4
 have z5 := tQ 5
 have z6 := tQ 6
 have z7 := tQ 7
 clear tQ
 have HbF := hZ9 (below_setRow1 HbZ.out (show w.heap.size ≤ w.heap.size + 1 + 1 by omega) #[.int .i64 i1, .int .i64 i2, .int .i64 i3, .string i4, .slice none 0 0, .slice pa pn pc, .bool false, .bool fa])
 have tQ := fun j => cell_setRow_same Z (w.heap.size + 1 + 1) j _ #[.int .i64 i1, .int .i64 i2, .int .i64 i3, .string i4, .slice none 0 0, .slice pa pn pc, .bool false, .bool fa] _ _ Z2.out
 have t0 := tQ 0
 have t1 := tQ 1
 have t2 := tQ 2
 have t3 := tQ 3
 have t4 := tQ 4
 have t5 := tQ 5
 have t6 := tQ 6
 have t7 := tQ 7
 clear tQ
 repeat (first | refine wpList_store_row rfl _ _ _ rfl (w.heap.size + 1 + 1) #[.int .i64 i1, .int .i64 i2, .int .i64 i3, .string i4, .slice none 0 0, .slice pa pn pc, .bool false, .bool fa] rfl rfl 110 _ Z2.out (by kernel_rfl) rfl (by simp [Value.oneCell']) ?_ | go_step)
 refine bodyPost_ret (v := .agg #[.int .i64 i1, .int .i64 i2, .int .i64 i3, .string i4, .slice none 0 0, .slice pa pn pc, .bool false, .bool fa]) (by simp [results, Try.results57, go_sem, t0, t1, t2, t3, t4, t5, t6, t7]) rfl ?_
 exact nxTo HCh.out (ownsRow_below T1.out HbF.out) T6.out.1 T6.out.2.1 HbF.out
theorem next_12 (base : Nat) (x : SbX) (ev : Ev) (w : World) (hk : ev.kd = 12) (h : SbO base w x) (hbs : base ≤ w.heap.size) (hm : ev.nm.size ≤ maxLen) (h2 : x.s.prs.length ≤ 10000) :
 Calls Try.prog 57 #[sbVal x, evVal ev] w (NxTo base (nextS x.s ev) w) := by
 have HSt := hZ9 h.strs
 have HPl := hZ9 h.plain
 obtain ⟨⟨i1, i2, i3, i4, nus, prs, su, fa⟩, na, nn, nc, pa, pn, pc⟩ := x
 obtain ⟨tm, kd, ac, sb, nu, nm, vl⟩ := ev
 obtain ⟨g1, g2, g3, g4, g5, g6, g7⟩ := h
 dsimp only at hk hm h2 HSt HPl g1 g2 g3 g4 g5 g6 g7
 subst g2 g3 g4 g5
 subst hk
 have HCh := hZ9 (show (⟨i1, i2, i3, i4, [], prs, su, true⟩ : Sb) = nextS ⟨i1, i2, i3, i4, [], prs, su, fa⟩ ⟨tm, 12, ac, sb, nu, nm, vl⟩ from rfl)
 obtain ⟨W, hW, r0, r1, r2, hw0, hz⟩ := three_rows w (Obj.cells #[.int .i64 i1, .int .i64 i2, .int .i64 i3, .string i4, .slice none 0 0, .slice pa pn pc, .bool su, .bool fa] 110) (Obj.cells #[.int .i64 tm, .int .i64 12, .int .i64 ac, .int .i64 sb, .string nu, .string nm, .int .i64 vl] 44) (Obj.cells #[.int .i64 0, .int .i64 0, .int .i64 0, .string ⟨#[]⟩, .slice none 0 0, .slice none 0 0, .bool false, .bool false] 110)
 have T1 := hZ9 g1
 have T6 := hZ9 (And.intro g6 (And.intro g7 (And.intro hm hbs)))
 have HS2 := hZ9 (HSt.out.below hw0)
 unfold sbVal evVal
 dsimp only
 have HW := hZ9 hW
 have Hw0 := hZ9 hw0
 have R0 := hZ9 r0
 have R1 := hZ9 r1
 have R2 := hZ9 r2
 have tQ := fun j => cell_of_row W _ j _ _ _ R0.out
 have a0 := tQ 0
 have a1 := tQ 1
 have a2 := tQ 2
 have a3 := tQ 3
 have a4 := tQ 4
 have a5 := tQ 5
 have a6 := tQ 6
 have a7 := tQ 7
 clear tQ
 have tQ := fun j => cell_of_row W _ j _ _ _ R1.out
 have b0 := tQ 0
 have b1 := tQ 1
 have b2 := tQ 2
 have b3 := tQ 3
 have b5 := tQ 5
 clear tQ
 have f3 := frozen_of_row W _ 3 _ _ R0.out
 have f4 := frozen_of_row W _ 4 _ _ R0.out
 have f5 := frozen_of_row W _ 5 _ _ R0.out
 have f6 := frozen_of_row W _ 6 _ _ R0.out
 have f7 := frozen_of_row W _ 7 _ _ R0.out
 obtain ⟨Z, hZ⟩ : ∃ Z, Z = (W.setCell ⟨w.heap.size, 7, none⟩ (.bool true)) := ⟨_, rfl⟩
 have Z0 := hZ9 (show Z.heap[w.heap.size]? = some (Obj.cells #[.int .i64 i1, .int .i64 i2, .int .i64 i3, .string i4, .slice none 0 0, .slice pa pn pc, .bool su, .bool true] 110) by rw [hZ]; exact (row_set _ R0.out))
 have Z2 := hZ9 (show Z.heap[w.heap.size + 1 + 1]? = some (Obj.cells #[.int .i64 0, .int .i64 0, .int .i64 0, .string ⟨#[]⟩, .slice none 0 0, .slice none 0 0, .bool false, .bool false] 110) by rw [hZ]; exact (row_other R2.out (by omega)))
 have HbZ := hZ9 (show Below w.heap.size w Z by rw [hZ]; exact (Hw0.out.setCell (Nat.le_refl _) _))
 have HZ := hZ9 hZ
 clear hZ
 clear hW r0 r1 r2 hw0 g1 g6 g7 hm hbs
 go_enter Try.func57, Try.ntmps57
 go_upto_region 1 with (fail)
 rw [← HW.out]
 go_upto_region 18 with (fail)
 rw [← HZ.out]
 clear a0 a1 a2 a3 a4 a5 a6 a7 b0 b1 b2 b3 b5 f3 f4 f5 f6 f7
 have tQ := fun j => cell_of_row Z _ j _ _ _ Z0.out
 have z0 := tQ 0
 have z1 := tQ 1
 have z2 := tQ 2
 have z3 := tQ 3
 have z4 := tQ 4
 have z5 := tQ 5
 have z6 := tQ 6
 have z7 := tQ 7
 clear tQ
 have HbF := hZ9 (below_setRow1 HbZ.out (show w.heap.size ≤ w.heap.size + 1 + 1 by omega) #[.int .i64 i1, .int .i64 i2, .int .i64 i3, .string i4, .slice none 0 0, .slice pa pn pc, .bool su, .bool true])
 have tQ := fun j => cell_setRow_same Z (w.heap.size + 1 + 1) j _ #[.int .i64 i1, .int .i64 i2, .int .i64 i3, .string i4, .slice none 0 0, .slice pa pn pc, .bool su, .bool true] _ _ Z2.out
 have t0 := tQ 0
 have t1 := tQ 1
 have t2 := tQ 2
 have t3 := tQ 3
 have t4 := tQ 4
 have t5 := tQ 5
 have t6 := tQ 6
 have t7 := tQ 7
 clear tQ
 repeat (first | refine wpList_store_row rfl _ _ _ rfl (w.heap.size + 1 + 1) #[.int .i64 i1, .int .i64 i2, .int .i64 i3, .string i4, .slice none 0 0, .slice pa pn pc, .bool su, .bool true] rfl rfl 110 _ Z2.out (by kernel_rfl) rfl (by simp [Value.oneCell']) ?_ | go_step)
 refine bodyPost_ret (v := .agg #[.int .i64 i1, .int .i64 i2, .int .i64 i3, .string i4, .slice none 0 0, .slice pa pn pc, .bool su, .bool true]) (by simp [results, Try.results57, go_sem, t0, t1, t2, t3, t4, t5, t6, t7]) rfl ?_
 exact nxTo HCh.out (ownsRow_below T1.out HbF.out) T6.out.1 T6.out.2.1 HbF.out
theorem next_13 (base : Nat) (x : SbX) (ev : Ev) (w : World) (hk : ev.kd = 13) (h : SbO base w x) (hbs : base ≤ w.heap.size) (hm : ev.nm.size ≤ maxLen) (h2 : x.s.prs.length ≤ 10000) :
 Calls Try.prog 57 #[sbVal x, evVal ev] w (NxTo base (nextS x.s ev) w) := by
 have HSt := hZ9 h.strs
 have HPl := hZ9 h.plain
 obtain ⟨⟨i1, i2, i3, i4, nus, prs, su, fa⟩, na, nn, nc, pa, pn, pc⟩ := x
 obtain ⟨tm, kd, ac, sb, nu, nm, vl⟩ := ev
 obtain ⟨g1, g2, g3, g4, g5, g6, g7⟩ := h
 dsimp only at hk hm h2 HSt HPl g1 g2 g3 g4 g5 g6 g7
 subst g2 g3 g4 g5
 subst hk
 have HCh := hZ9 (show (⟨i1, i2, i3, i4, [], prs, su, false⟩ : Sb) = nextS ⟨i1, i2, i3, i4, [], prs, su, fa⟩ ⟨tm, 13, ac, sb, nu, nm, vl⟩ from rfl)
 obtain ⟨W, hW, r0, r1, r2, hw0, hz⟩ := three_rows w (Obj.cells #[.int .i64 i1, .int .i64 i2, .int .i64 i3, .string i4, .slice none 0 0, .slice pa pn pc, .bool su, .bool fa] 110) (Obj.cells #[.int .i64 tm, .int .i64 13, .int .i64 ac, .int .i64 sb, .string nu, .string nm, .int .i64 vl] 44) (Obj.cells #[.int .i64 0, .int .i64 0, .int .i64 0, .string ⟨#[]⟩, .slice none 0 0, .slice none 0 0, .bool false, .bool false] 110)
 have T1 := hZ9 g1
 have T6 := hZ9 (And.intro g6 (And.intro g7 (And.intro hm hbs)))
 have HS2 := hZ9 (HSt.out.below hw0)
 unfold sbVal evVal
 dsimp only
 have HW := hZ9 hW
 have Hw0 := hZ9 hw0
 have R0 := hZ9 r0
 have R1 := hZ9 r1
 have R2 := hZ9 r2
 have tQ := fun j => cell_of_row W _ j _ _ _ R0.out
 have a0 := tQ 0
 have a1 := tQ 1
 have a2 := tQ 2
 have a3 := tQ 3
 have a4 := tQ 4
 have a5 := tQ 5
 have a6 := tQ 6
 have a7 := tQ 7
 clear tQ
 have tQ := fun j => cell_of_row W _ j _ _ _ R1.out
 have b0 := tQ 0
 have b1 := tQ 1
 have b2 := tQ 2
 have b3 := tQ 3
 have b5 := tQ 5
 clear tQ
 have f3 := frozen_of_row W _ 3 _ _ R0.out
 have f4 := frozen_of_row W _ 4 _ _ R0.out
 have f5 := frozen_of_row W _ 5 _ _ R0.out
 have f6 := frozen_of_row W _ 6 _ _ R0.out
 have f7 := frozen_of_row W _ 7 _ _ R0.out
 obtain ⟨Z, hZ⟩ : ∃ Z, Z = (W.setCell ⟨w.heap.size, 7, none⟩ (.bool false)) := ⟨_, rfl⟩
 have Z0 := hZ9 (show Z.heap[w.heap.size]? = some (Obj.cells #[.int .i64 i1, .int .i64 i2, .int .i64 i3, .string i4, .slice none 0 0, .slice pa pn pc, .bool su, .bool false] 110) by rw [hZ]; exact (row_set _ R0.out))
 have Z2 := hZ9 (show Z.heap[w.heap.size + 1 + 1]? = some (Obj.cells #[.int .i64 0, .int .i64 0, .int .i64 0, .string ⟨#[]⟩, .slice none 0 0, .slice none 0 0, .bool false, .bool false] 110) by rw [hZ]; exact (row_other R2.out (by omega)))
 have HbZ := hZ9 (show Below w.heap.size w Z by rw [hZ]; exact (Hw0.out.setCell (Nat.le_refl _) _))
 have HZ := hZ9 hZ
 clear hZ
 clear hW r0 r1 r2 hw0 g1 g6 g7 hm hbs
 go_enter Try.func57, Try.ntmps57
 go_upto_region 1 with (fail)
 rw [← HW.out]
 go_upto_region 18 with (fail)
 rw [← HZ.out]
 clear a0 a1 a2 a3 a4 a5 a6 a7 b0 b1 b2 b3 b5 f3 f4 f5 f6 f7
 have tQ := fun j => cell_of_row Z _ j _ _ _ Z0.out
 have z0 := tQ 0
 have z1 := tQ 1
 have z2 := tQ 2
 have z3 := tQ 3
 have z4 := tQ 4
 have z5 := tQ 5
 have z6 := tQ 6
 have z7 := tQ 7
 clear tQ
 have HbF := hZ9 (below_setRow1 HbZ.out (show w.heap.size ≤ w.heap.size + 1 + 1 by omega) #[.int .i64 i1, .int .i64 i2, .int .i64 i3, .string i4, .slice none 0 0, .slice pa pn pc, .bool su, .bool false])
 have tQ := fun j => cell_setRow_same Z (w.heap.size + 1 + 1) j _ #[.int .i64 i1, .int .i64 i2, .int .i64 i3, .string i4, .slice none 0 0, .slice pa pn pc, .bool su, .bool false] _ _ Z2.out
 have t0 := tQ 0
 have t1 := tQ 1
 have t2 := tQ 2
 have t3 := tQ 3
 have t4 := tQ 4
 have t5 := tQ 5
 have t6 := tQ 6
 have t7 := tQ 7
 clear tQ
 repeat (first | refine wpList_store_row rfl _ _ _ rfl (w.heap.size + 1 + 1) #[.int .i64 i1, .int .i64 i2, .int .i64 i3, .string i4, .slice none 0 0, .slice pa pn pc, .bool su, .bool false] rfl rfl 110 _ Z2.out (by kernel_rfl) rfl (by simp [Value.oneCell']) ?_ | go_step)
 refine bodyPost_ret (v := .agg #[.int .i64 i1, .int .i64 i2, .int .i64 i3, .string i4, .slice none 0 0, .slice pa pn pc, .bool su, .bool false]) (by simp [results, Try.results57, go_sem, t0, t1, t2, t3, t4, t5, t6, t7]) rfl ?_
 exact nxTo HCh.out (ownsRow_below T1.out HbF.out) T6.out.1 T6.out.2.1 HbF.out
theorem next_0 (base : Nat) (x : SbX) (ev : Ev) (w : World) (hk : ¬ (ev.kd = 3 ∨ ev.kd = 4 ∨ (7 ≤ ev.kd ∧ ev.kd ≤ 13))) (h : SbO base w x) (hbs : base ≤ w.heap.size) (hm : ev.nm.size ≤ maxLen) (h2 : x.s.prs.length ≤ 10000) :
 Calls Try.prog 57 #[sbVal x, evVal ev] w (NxTo base (nextS x.s ev) w) := by
 have HSt := hZ9 h.strs
 have HPl := hZ9 h.plain
 obtain ⟨⟨i1, i2, i3, i4, nus, prs, su, fa⟩, na, nn, nc, pa, pn, pc⟩ := x
 obtain ⟨tm, kd, ac, sb, nu, nm, vl⟩ := ev
 obtain ⟨g1, g2, g3, g4, g5, g6, g7⟩ := h
 dsimp only at hk hm h2 HSt HPl g1 g2 g3 g4 g5 g6 g7
 subst g2 g3 g4 g5
 have e3 : (kd == 3) = false := beq_eq_false_iff_ne.2 (by omega)
 have e4 : (kd == 4) = false := beq_eq_false_iff_ne.2 (by omega)
 have e7 : (kd == 7) = false := beq_eq_false_iff_ne.2 (by omega)
 have e8 : (kd == 8) = false := beq_eq_false_iff_ne.2 (by omega)
 have e9 : (kd == 9) = false := beq_eq_false_iff_ne.2 (by omega)
 have e10 : (kd == 10) = false := beq_eq_false_iff_ne.2 (by omega)
 have e11 : (kd == 11) = false := beq_eq_false_iff_ne.2 (by omega)
 have e12 : (kd == 12) = false := beq_eq_false_iff_ne.2 (by omega)
 have e13 : (kd == 13) = false := beq_eq_false_iff_ne.2 (by omega)
 have HCh := hZ9 (show (⟨i1, i2, i3, i4, [], prs, su, fa⟩ : Sb) = nextS ⟨i1, i2, i3, i4, [], prs, su, fa⟩ ⟨tm, kd, ac, sb, nu, nm, vl⟩ from by unfold nextS; dsimp only; rw [if_neg (by omega), if_neg (by omega), if_neg (by omega), if_neg (by omega), if_neg (by omega), if_neg (by omega), if_neg (by omega)])
 obtain ⟨W, hW, r0, r1, r2, hw0, hz⟩ := three_rows w (Obj.cells #[.int .i64 i1, .int .i64 i2, .int .i64 i3, .string i4, .slice none 0 0, .slice pa pn pc, .bool su, .bool fa] 110) (Obj.cells #[.int .i64 tm, .int .i64 kd, .int .i64 ac, .int .i64 sb, .string nu, .string nm, .int .i64 vl] 44) (Obj.cells #[.int .i64 0, .int .i64 0, .int .i64 0, .string ⟨#[]⟩, .slice none 0 0, .slice none 0 0, .bool false, .bool false] 110)
 have T1 := hZ9 g1
 have T6 := hZ9 (And.intro g6 (And.intro g7 (And.intro hm hbs)))
 have HS2 := hZ9 (HSt.out.below hw0)
 unfold sbVal evVal
 dsimp only
 have HW := hZ9 hW
 have Hw0 := hZ9 hw0
 have R0 := hZ9 r0
 have R1 := hZ9 r1
 have R2 := hZ9 r2
 have tQ := fun j => cell_of_row W _ j _ _ _ R0.out
 have a0 := tQ 0
 have a1 := tQ 1
 have a2 := tQ 2
 have a3 := tQ 3
 have a4 := tQ 4
 have a5 := tQ 5
 have a6 := tQ 6
 have a7 := tQ 7
 clear tQ
 have tQ := fun j => cell_of_row W _ j _ _ _ R1.out
 have b0 := tQ 0
 have b1 := tQ 1
 have b2 := tQ 2
 have b3 := tQ 3
 have b5 := tQ 5
 clear tQ
 have f3 := frozen_of_row W _ 3 _ _ R0.out
 have f4 := frozen_of_row W _ 4 _ _ R0.out
 have f5 := frozen_of_row W _ 5 _ _ R0.out
 have f6 := frozen_of_row W _ 6 _ _ R0.out
 have f7 := frozen_of_row W _ 7 _ _ R0.out
 obtain ⟨Z, hZ⟩ : ∃ Z, Z = W := ⟨_, rfl⟩
 have Z0 := hZ9 (show Z.heap[w.heap.size]? = some (Obj.cells #[.int .i64 i1, .int .i64 i2, .int .i64 i3, .string i4, .slice none 0 0, .slice pa pn pc, .bool su, .bool fa] 110) by rw [hZ]; exact R0.out)
 have Z2 := hZ9 (show Z.heap[w.heap.size + 1 + 1]? = some (Obj.cells #[.int .i64 0, .int .i64 0, .int .i64 0, .string ⟨#[]⟩, .slice none 0 0, .slice none 0 0, .bool false, .bool false] 110) by rw [hZ]; exact R2.out)
 have HbZ := hZ9 (show Below w.heap.size w Z by rw [hZ]; exact Hw0.out)
 have HZ := hZ9 hZ
 clear hZ
 clear hW r0 r1 r2 hw0 g1 g6 g7 hm hbs hk
 go_enter Try.func57, Try.ntmps57
 go_upto_region 1 with (fail)
 rw [← HW.out]
 go_upto_region 18 with (fail)
 rw [← HZ.out]
 clear a0 a1 a2 a3 a4 a5 a6 a7 b0 b1 b2 b3 b5 f3 f4 f5 f6 f7
 have tQ := fun j => cell_of_row Z _ j _ _ _ Z0.out
 have z0 := tQ 0
 have z1 := tQ 1
 have z2 := tQ 2
 have z3 := tQ 3
 have z4 := tQ 4
 have z5 := tQ 5
 have z6 := tQ 6
 have z7 := tQ 7
 clear tQ
 have HbF := hZ9 (below_setRow1 HbZ.out (show w.heap.size ≤ w.heap.size + 1 + 1 by omega) #[.int .i64 i1, .int .i64 i2, .int .i64 i3, .string i4, .slice none 0 0, .slice pa pn pc, .bool su, .bool fa])
 have tQ := fun j => cell_setRow_same Z (w.heap.size + 1 + 1) j _ #[.int .i64 i1, .int .i64 i2, .int .i64 i3, .string i4, .slice none 0 0, .slice pa pn pc, .bool su, .bool fa] _ _ Z2.out
 have t0 := tQ 0
 have t1 := tQ 1
 have t2 := tQ 2
 have t3 := tQ 3
 have t4 := tQ 4
 have t5 := tQ 5
 have t6 := tQ 6
 have t7 := tQ 7
 clear tQ
 repeat (first | refine wpList_store_row rfl _ _ _ rfl (w.heap.size + 1 + 1) #[.int .i64 i1, .int .i64 i2, .int .i64 i3, .string i4, .slice none 0 0, .slice pa pn pc, .bool su, .bool fa] rfl rfl 110 _ Z2.out (by kernel_rfl) rfl (by simp [Value.oneCell']) ?_ | go_step)
 refine bodyPost_ret (v := .agg #[.int .i64 i1, .int .i64 i2, .int .i64 i3, .string i4, .slice none 0 0, .slice pa pn pc, .bool su, .bool fa]) (by simp [results, Try.results57, go_sem, t0, t1, t2, t3, t4, t5, t6, t7]) rfl ?_
 exact nxTo HCh.out (ownsRow_below T1.out HbF.out) T6.out.1 T6.out.2.1 HbF.out
theorem next_calls (base : Nat) (x : SbX) (ev : Ev) (w : World) (h : SbO base w x) (hbs : base ≤ w.heap.size) (hm : ev.nm.size ≤ maxLen) (h2 : x.s.prs.length ≤ 10000) :
 Calls Try.prog 57 #[sbVal x, evVal ev] w (NxTo base (nextS x.s ev) w) := by
 rcases (show ev.kd = 3 ∨ ev.kd = 4 ∨ ev.kd = 7 ∨ ev.kd = 8 ∨ ev.kd = 9 ∨ ev.kd = 10 ∨ ev.kd = 11 ∨ ev.kd = 12 ∨ ev.kd = 13 ∨ ¬ (ev.kd = 3 ∨ ev.kd = 4 ∨ (7 ≤ ev.kd ∧ ev.kd ≤ 13)) by omega) with g | g | g | g | g | g | g | g | g | g
 · exact next_3 base x ev w g h hbs hm h2
 · exact next_4 base x ev w g h hbs hm h2
 · exact next_7 base x ev w g h hbs hm h2
 · exact next_8 base x ev w g h hbs hm h2
 · exact next_9 base x ev w g h hbs hm h2
 · exact next_10 base x ev w g h hbs hm h2
 · exact next_11 base x ev w g h hbs hm h2
 · exact next_12 base x ev w g h hbs hm h2
 · exact next_13 base x ev w g h hbs hm h2
 exact next_0 base x ev w g h hbs hm h2
def mmCells (p : Int × SbX) : List Value := .int .i64 p.1 :: sbCells p.2
def mmVal (p : Int × SbX) : Value := .agg (mmCells p).toArray
def plainM (X : List (Int × SbX)) : List (Int × Sb) := X.map fun p => (p.1, p.2.s)
theorem mm_one (p : Int × SbX) : ∀ u ∈ mmCells p, u.oneCell' = true := by
 intro u hu
 rcases List.mem_cons.1 hu with rfl | hu
 · rfl
 exact sb_one _ u hu
theorem Try.momInfo : (Try.prog.info? 112).map (fun i => (i.zero, i.size, i.bytes)) = some (some (.agg #[.int .i64 0, .int .i64 0, .int .i64 0, .int .i64 0, .string ⟨#[]⟩, .slice none 0 0, .slice none 0 0, .bool false, .bool false]), 9, 104) := by kernel_rfl
def MmsOk (base : Nat) (w : World) (X : List (Int × SbX)) : Prop := ∀ p ∈ X, SbO base w p.2
theorem MmsOk.below {base : Nat} {w w' : World} {X : List (Int × SbX)} (h : MmsOk base w X) (hb : Below w.heap.size w w') : MmsOk base w' X := fun p hp => (h p hp).below hb
theorem SbO.setRow {base : Nat} {w : World} {x : SbX} (h : SbO base w x) {g : Nat} {cs : Array Value} {t : TypeId} {fr : Nat × Nat} (hg : w.heap[g]? = some (.cells cs t fr)) (ht : t ≠ 9) (cs' : Array Value) : SbO base (w.setRow g cs') x :=
 ⟨own_setRow1 h.row (own_other h.row hg ht) _, h.na, h.nn, h.nc, h.nus, h.plan, h.sizes⟩
theorem SbO.grow {base base' : Nat} {w w' : World} {x : SbX} (h : SbO base w x) {v : Value} {n : Nat} {xs : List Value} (ho : w.ownsRow base' 112 9 v n xs) (hg : w.grownBy w' v.ownBlock) : SbO base w' x :=
 ⟨own_grow h.row hg (own_other2 h.row ho (by decide)), h.na, h.nn, h.nc, h.nus, h.plan, h.sizes⟩
def MmsTo (M : List (Int × Sb)) (w : World) (e : Ending) (w' : World) : Prop := ∃ (a : Option Addr) (c : Nat) (X : List (Int × SbX)), e = .returned (.slice a X.length c) ∧ w'.ownsRow w.heap.size 112 9 (.slice a X.length c) X.length (X.flatMap mmCells) ∧ plainM X = M ∧ MmsOk w.heap.size w' X ∧ Below w.heap.size w w'
structure MomR (w : World) (X : List (Int × SbX)) (xs : SbX) (vo : Value) (wr : World) : Prop where
 own : wr.ownsRow w.heap.size 112 9 vo X.length (X.flatMap mmCells)
 ok : MmsOk w.heap.size wr X
 row : wr.heap[w.heap.size]? = some (.cells (sbCells xs).toArray 110)
 so : SbO w.heap.size wr xs
 b : Below w.heap.size w wr
theorem MomR.below {w : World} {X : List (Int × SbX)} {xs : SbX} {vo : Value} {wr w' : World} (h : MomR w X xs vo wr) (hb : Below wr.heap.size wr w') : MomR w X xs vo w' :=
 ⟨ownsRow_below h.own hb, h.ok.below hb, (hb.block _ (ltB9 h.row)).trans h.row, h.so.below hb, h.b.trans (hb.mono h.b.size)⟩
theorem MomR.var {w : World} {X : List (Int × SbX)} {xs x' : SbX} {vo : Value} {wr : World} (h : MomR w X xs vo wr) (hx : SbO w.heap.size wr x') : MomR w X x' vo (wr.setRow w.heap.size (sbCells x').toArray) :=
 ⟨own_setRow1 h.own (own_other h.own h.row (by decide)) _, fun p hp => (h.ok p hp).setRow h.row (by decide) _, setRow_heap wr _ _ _ _ _ h.row, hx.setRow h.row (by decide) _, below_setRow1 h.b (Nat.le_refl _) _⟩
theorem MomR.turn {w : World} {X X' : List (Int × SbX)} {xs : SbX} {vo v' : Value} {V w5 : World} (h : MomR w X xs vo V) (hg : V.grownBy w5 vo.ownBlock) (ho : w5.ownsRow w.heap.size 112 9 v' X'.length (X'.flatMap mmCells)) (hX : ∀ p ∈ X', p ∈ X ∨ p.2 = xs) : MomR w X' xs v' w5 :=
 ⟨ho, fun p hp => by
  rcases hX p hp with hp | hp
  · exact (h.ok p hp).grow h.own hg
  rw [hp]; exact h.so.grow h.own hg, (hg.block _ (ltB9 h.row) (fun e => own_other h.own h.row (by decide) e.symm)).trans h.row, h.so.grow h.own hg, h.b.grown hg h.b.size (fun g hg' => (ownsRow_block h.own g hg').1)⟩
theorem plainM_len (X : List (Int × SbX)) : (plainM X).length = X.length := List.length_map _
theorem plainM_snoc (X : List (Int × SbX)) (p : Int × SbX) : plainM (X ++ [p]) = plainM X ++ [(p.1, p.2.s)] := by unfold plainM; rw [List.map_append]; rfl
theorem prs_len (n : Int) (l : List Ev) : ∀ k, k ≤ l.length → (momF n (l.take k)).2.prs.length ≤ k
 | 0, _ => by rw [List.take_zero]; exact Nat.le_refl _
 | k + 1, hk => by
  rw [momF_take n l k (by omega)]
  have ih := prs_len n l k (by omega)
  generalize l[k]'(by omega) = e
  unfold momStep
  split
  · omega
  dsimp only
  have a3 := withT_len (momF n (l.take k)).2.prs e.nm
  have a4 := withoutT_len (momF n (l.take k)).2.prs e.nm
  unfold nextS
  repeat' split
  all_goals (try dsimp only)
  all_goals first | omega | exact Nat.zero_le _
theorem moments_calls (v : Value) (l : List Ev) (n : Int) (w : World) (h : EvsAt w v l) (hl : l.length ≤ 1000) :
 Calls Try.prog 48 #[v, .int .i64 n] w (MmsTo (momF n l).1 w) := by
 have HA := hZ9 h
 obtain ⟨av, cap, rfl, hcl, hcm⟩ := rec_shape h.1
 unfold maxLen at hcm
 clear h
 go_enter Try.func48, Try.ntmps48
 go_wp2_with fail
 go_loopw [5, 12] (fun vo i wr => ∃ (k : Nat) (X : List (Int × SbX)) (xs : SbX), k ≤ l.length ∧ i = .int .i64 k ∧ RowKit.Hid (plainM X = (momF n (l.take k)).1) ∧ RowKit.Hid (xs.s = (momF n (l.take k)).2) ∧ MomR w X xs vo wr) (fun _ i _ => l.length - (intOf i).toNat)
 case atStart =>
  refine ⟨0, [], ⟨zeroS, none, 0, 0, none, 0, 0⟩, Nat.zero_le _, rfl, hZ9 rfl, hZ9 rfl, World.ownsRow_nil _ _ _ _, (fun p hp => by cases hp), heap_alloc_new _ _, ⟨World.ownsRow_nil _ _ _ _, rfl, rfl, rfl, rfl, Nat.zero_le _, (fun p hp => by cases hp)⟩, (Below.refl _ _).alloc (Nat.le_refl _) _⟩
 case round =>
  obtain ⟨wo, rfl⟩ : ∃ wo : World, wo = wr := ⟨_, rfl⟩
  obtain ⟨k, X, xs, hk, rfl, HP, HS, hR⟩ := hrel
  have HR := hZ9 hR
  clear hR
  obtain ⟨a, cp, rfl, hc1, hc2⟩ := own_shape HR.out.own
  unfold maxLen at hc2
  by_cases hlt : k < l.length
  · have hk1 : (k : Int) < (l.length : Int) := by omega
    have hk0 : (0 : Int) ≤ (k : Int) := Int.natCast_nonneg _
    have HMf := hZ9 (momF_take n l k hlt)
    have HEs := hZ9 (HA.out.2 _ (List.getElem_mem hlt))
    have HPl := hZ9 (show xs.s.prs.length ≤ 10000 by
     have := prs_len n l k hk
     rw [← HS.out] at this; omega)
    have hXl : X.length ≤ 1000 := by
     have h1 := momF_len n l k hk
     rw [← HP.out, plainM_len] at h1; omega
    obtain ⟨a2, c2, e2, -, -, hx⟩ := (HA.out.below HR.out.b).1
    cases e2
    obtain ⟨bb, o, rfl, hB, hx⟩ := hx (by rintro rfl; cases hlt)
    have hx := hx k hlt
    have x0 := hx 0 (by decide)
    have x1 := hx 1 (by decide)
    have x2 := hx 2 (by decide)
    have x3 := hx 3 (by decide)
    have x4 := hx 4 (by decide)
    have x5 := hx 5 (by decide)
    have x6 := hx 6 (by decide)
    clear hx hB
    generalize l[k] = e at *
    obtain ⟨tm, kd, ac, sb, nu, nm, vl⟩ := e
    simp only [evCells, List.getElem?_cons_zero, List.getElem?_cons_succ, Nat.add_zero] at x0 x1 x2 x3 x4 x5 x6
    dsimp only at HEs
    obtain ⟨Y, hY⟩ : ∃ Y, Y = wo.alloc (Obj.cells #[.int .i64 tm, .int .i64 kd, .int .i64 ac, .int .i64 sb, .string nu, .string nm, .int .i64 vl] 44) := ⟨_, rfl⟩
    have hbY : Below wo.heap.size wo Y := by rw [hY]; go_grown
    have HYr := hZ9 (show Y.heap[wo.heap.size]? = some (Obj.cells #[.int .i64 tm, .int .i64 kd, .int .i64 ac, .int .i64 sb, .string nu, .string nm, .int .i64 vl] 44) by rw [hY]; exact heap_alloc_new _ _)
    have HRY := hZ9 (HR.out.below hbY)
    have HY := hZ9 hY
    have hwY : wo.heap.size < Y.heap.size := (ltB9 HYr.out)
    have hgY : w.heap.size < wo.heap.size := (ltB9 HR.out.row)
    clear hbY hY
    have y3 := cell_of_row Y _ 3 _ _ _ HYr.out
    by_cases hn0 : n = 0
    · have HE := hZ9 (HMf.out.trans (momStep_no (Or.inl hn0)))
      have hn1 : (n == 0) = true := by simp [hn0]
      clear hn0
      go_upto_region 6 with (fail)
      rw [← HY.out]
      go_wp2
      exact ⟨⟨k + 1, X, xs, by omega, by go_num, hZ9 (HP.out.trans (by rw [HE.out])), hZ9 (HS.out.trans (by rw [HE.out])), HRY.out⟩, by simp [intOf]; omega⟩
    have hn1 : (n == 0) = false := by simp [hn0]
    by_cases hsn : sb = n
    · have HE := hZ9 (HMf.out.trans (momStep_yes hn0 hsn))
      have hn2 : (sb != n) = false := by simp [hsn]
      clear hn0 hsn
      have HNx := hZ9 (next_calls w.heap.size xs ⟨tm, kd, ac, sb, nu, nm, vl⟩ Y HRY.out.so HRY.out.b.size HEs.out.2 HPl.out)
      have tQ := fun j => cell_of_row Y _ j _ _ _ HYr.out
      have y0 := tQ 0
      have y1 := tQ 1
      have y2 := tQ 2
      have y4 := tQ 4
      have y5 := tQ 5
      have y6 := tQ 6
      clear tQ
      have s0 : Y.cell? ⟨w.heap.size, 0, none⟩ = some (.int .i64 xs.s.id) := cell_of_row Y _ 0 _ _ _ HRY.out.row
      have s1 : Y.cell? ⟨w.heap.size, 1, none⟩ = some (.int .i64 xs.s.ac) := cell_of_row Y _ 1 _ _ _ HRY.out.row
      have s2 : Y.cell? ⟨w.heap.size, 2, none⟩ = some (.int .i64 xs.s.si) := cell_of_row Y _ 2 _ _ _ HRY.out.row
      have s3 : Y.cell? ⟨w.heap.size, 3, none⟩ = some (.string xs.s.plan) := cell_of_row Y _ 3 _ _ _ HRY.out.row
      have s4 : Y.cell? ⟨w.heap.size, 4, none⟩ = some (.slice xs.na xs.nn xs.nc) := cell_of_row Y _ 4 _ _ _ HRY.out.row
      have s5 : Y.cell? ⟨w.heap.size, 5, none⟩ = some (.slice xs.pa xs.pn xs.pc) := cell_of_row Y _ 5 _ _ _ HRY.out.row
      have s6 : Y.cell? ⟨w.heap.size, 6, none⟩ = some (.bool xs.s.su) := cell_of_row Y _ 6 _ _ _ HRY.out.row
      have s7 : Y.cell? ⟨w.heap.size, 7, none⟩ = some (.bool xs.s.fa) := cell_of_row Y _ 7 _ _ _ HRY.out.row
      go_upto_region 6 with (fail)
      rw [← HY.out]
      go_wp2_with fail
      refine HNx.out.mono ?_
      rintro e w1 ⟨x', rfl, hx's, hso, hb1⟩
      have HS2 := hZ9 (show x'.s = (momF n (l.take (k + 1))).2 by rw [HE.out, hx's, HS.out])
      have HP2 := hZ9 (show (momF n (l.take (k + 1))).1 = putM (plainM X) tm x'.s by rw [HE.out, hx's, HP.out, HS.out])
      have HR1 := hZ9 (HRY.out.below hb1)
      have HR2 := hZ9 (HR1.out.var hso)
      have HRo := hZ9 HR1.out.row
      have HY2 := hZ9 (show (w1.setRow w.heap.size (sbCells x').toArray).heap[wo.heap.size]? = _ from (setRow_other _ _ _ _ (by omega)).trans ((hb1.block _ hwY).trans HYr.out))
      clear y0 y1 y2 y3 y4 y5 y6 s0 s1 s2 s3 s4 s5 s6 s7 x0 x1 x2 x3 x4 x5 x6 hx's hso hb1
      obtain ⟨Z, hZ⟩ : ∃ Z, Z = w1.setRow w.heap.size (sbCells x').toArray := ⟨_, rfl⟩
      rw [← hZ] at HR2 HY2
      have HZ := hZ9 hZ
      clear hZ
      dsimp only [Act.put]
      repeat (first | (refine wpList_store_row rfl _ _ _ rfl w.heap.size (sbCells x').toArray rfl rfl 110 _ HRo.out (by kernel_rfl) rfl (by simp [sbCells, Value.oneCell']) ?_) | go_step)
      go_upto_region 9 with (fail)
      rw [← HZ.out]
      have z0 := cell_of_row Z _ 0 _ _ _ HY2.out
      by_cases hX : X = []
      · subst hX
        go_big_quiet (fail)
        clear z0
        go_upto_region 11 with (fail)
        obtain ⟨V, hV⟩ : ∃ V, V = Z.drewN nq := ⟨_, rfl⟩
        have hbV : Below Z.heap.size Z V := by rw [hV]; exact below_drewN2 (Below.refl _ _) _
        rw [← hV]
        have HRV := hZ9 (HR2.out.below hbV)
        have HYV := hZ9 ((hbV.block _ (ltB9 HY2.out)).trans HY2.out)
        clear hV hbV
        have e0 := cell_of_row V _ 0 _ _ _ HYV.out
        have s0 : V.cell? ⟨w.heap.size, 0, none⟩ = some (.int .i64 x'.s.id) := cell_of_row V _ 0 _ _ _ HRV.out.row
        have s1 : V.cell? ⟨w.heap.size, 1, none⟩ = some (.int .i64 x'.s.ac) := cell_of_row V _ 1 _ _ _ HRV.out.row
        have s2 : V.cell? ⟨w.heap.size, 2, none⟩ = some (.int .i64 x'.s.si) := cell_of_row V _ 2 _ _ _ HRV.out.row
        have s3 : V.cell? ⟨w.heap.size, 3, none⟩ = some (.string x'.s.plan) := cell_of_row V _ 3 _ _ _ HRV.out.row
        have s4 : V.cell? ⟨w.heap.size, 4, none⟩ = some (.slice x'.na x'.nn x'.nc) := cell_of_row V _ 4 _ _ _ HRV.out.row
        have s5 : V.cell? ⟨w.heap.size, 5, none⟩ = some (.slice x'.pa x'.pn x'.pc) := cell_of_row V _ 5 _ _ _ HRV.out.row
        have s6 : V.cell? ⟨w.heap.size, 6, none⟩ = some (.bool x'.s.su) := cell_of_row V _ 6 _ _ _ HRV.out.row
        have s7 : V.cell? ⟨w.heap.size, 7, none⟩ = some (.bool x'.s.fa) := cell_of_row V _ 7 _ _ _ HRV.out.row
        have HX := hZ9 (RecAt.one (c := mmCells) (sz := 9) V (tm, x') 112 #[.int .i64 tm, .int .i64 x'.s.id, .int .i64 x'.s.ac, .int .i64 x'.s.si, .string x'.s.plan, .slice x'.na x'.nn x'.nc, .slice x'.pa x'.pn x'.pc, .bool x'.s.su, .bool x'.s.fa] rfl)
        have HRW := hZ9 (HRV.out.below ((Below.refl V.heap.size V).alloc (Nat.le_refl _) (Obj.cells #[.int .i64 tm, .int .i64 x'.s.id, .int .i64 x'.s.ac, .int .i64 x'.s.si, .string x'.s.plan, .slice x'.na x'.nn x'.nc, .slice x'.pa x'.pn x'.pc, .bool x'.s.su, .bool x'.s.fa] 112)))
        have hVs := HRV.out.b.size
        go_wp2_with (at_builtin; refine append_rec2 (c := mmCells) (sz := 9) (fun _ => rfl) mm_one 112 107 _ 104 Try.underlying107 Try.momInfo rfl (by decide) rfl _ _ rfl w.heap.size ?hs _ _ [] [(tm, x')] rfl rfl HRW.out.own HX.out ?hl ?hb ?_)
        case hs => simp; omega
        case hl => unfold maxLen; simp <;> omega
        case hb => simp <;> omega
        intro R hR v5 w5 own5 hg5
        have HRe := hZ9 (show R = ([] : List (Int × SbX)) ++ [(tm, x')] by rw [hR.out]; first | rfl | simp)
        have HRf := hZ9 (HRW.out.turn hg5 own5 (fun p hp => by
         rw [HRe.out] at hp
         rcases List.mem_append.1 hp with hp | hp
         · exact Or.inl hp
         rw [List.mem_singleton.1 hp]; exact Or.inr rfl))
        have HPf := hZ9 (show plainM R = (momF n (l.take (k + 1))).1 by rw [HP2.out, HRe.out]; exact rfl)
        clear own5 hg5 hR e0 s0 s1 s2 s3 s4 s5 s6 s7 hVs
        go_wp2
        exact ⟨⟨k + 1, R, x', by omega, by go_num, HPf, HS2, HRf.out⟩, by simp [intOf]; omega⟩
      obtain ⟨K, q, rfl⟩ : ∃ K q, X = K ++ [q] := ⟨_, _, (List.dropLast_concat_getLast hX).symm⟩
      obtain ⟨q1, q2⟩ := q
      clear hX
      obtain ⟨g0, rfl, hln, hgB, hgl, hown, hcell⟩ := own_last (c := mmCells) (sz := 9) (fun _ => rfl) HR2.out.own
      have HR2 := hZ9 (show MomR w (K ++ [(q1, q2)]) x' (.slice (some ⟨g0, 0, none⟩) (K.length + 1) cp) Z by have h := HR2.out; rwa [hln] at h)
      have HownM := hZ9 hown
      have z1 : Z.cell? ⟨g0, K.length * 9, none⟩ = some (.int .i64 q1) := hcell 0 (by decide)
      rw [hln] at hXl hc1 ⊢
      have hj1 : IntKind.i64.wrap ((K.length : Int) + 1 - 1) = (K.length : Int) := by rw [Int.add_sub_cancel]; exact IntWalk.i64_in _ (by omega)
      have hj2 : (0 : Int) < (K.length : Int) + 1 := by omega
      have hj3 : ((K.length : Int) + 1).toNat = K.length + 1 := by omega
      have hj4 : IntKind.i64.wrap (K.length : Int) = (K.length : Int) := IntWalk.i64_in _ (by omega)
      have hj5 : (0 : Int) ≤ (K.length : Int) := Int.natCast_nonneg _
      have hj6 : (K.length : Int) < (K.length : Int) + 1 := by omega
      have J := hZ9 (And.intro hj1 (And.intro hj2 (And.intro hj3 (And.intro hj4 (And.intro hj5 hj6)))))
      have Hln := hZ9 hln
      clear hown hcell hln
      by_cases hq : q1 = tm
      · have hq2 : (q1 == tm) = true := by rw [hq]; exact beq_self_eq_true _
        have Hq := hZ9 hq
        clear hq
        go_big_quiet (fail)
        clear hj1 hj2 hj3 hj4 hj5 hj6 z0 z1
        go_upto_region 10 with (fail)
        obtain ⟨V, hV⟩ : ∃ V, V = Z.drewN nq := ⟨_, rfl⟩
        have hbV : Below Z.heap.size Z V := by rw [hV]; exact below_drewN2 (Below.refl _ _) _
        rw [← hV]
        have HRV := hZ9 (HR2.out.below hbV)
        have HoV := hZ9 (ownsRow_below HownM.out hbV)
        clear hV hbV
        have s0 : V.cell? ⟨w.heap.size, 0, none⟩ = some (.int .i64 x'.s.id) := cell_of_row V _ 0 _ _ _ HRV.out.row
        have s1 : V.cell? ⟨w.heap.size, 1, none⟩ = some (.int .i64 x'.s.ac) := cell_of_row V _ 1 _ _ _ HRV.out.row
        have s2 : V.cell? ⟨w.heap.size, 2, none⟩ = some (.int .i64 x'.s.si) := cell_of_row V _ 2 _ _ _ HRV.out.row
        have s3 : V.cell? ⟨w.heap.size, 3, none⟩ = some (.string x'.s.plan) := cell_of_row V _ 3 _ _ _ HRV.out.row
        have s4 : V.cell? ⟨w.heap.size, 4, none⟩ = some (.slice x'.na x'.nn x'.nc) := cell_of_row V _ 4 _ _ _ HRV.out.row
        have s5 : V.cell? ⟨w.heap.size, 5, none⟩ = some (.slice x'.pa x'.pn x'.pc) := cell_of_row V _ 5 _ _ _ HRV.out.row
        have s6 : V.cell? ⟨w.heap.size, 6, none⟩ = some (.bool x'.s.su) := cell_of_row V _ 6 _ _ _ HRV.out.row
        have s7 : V.cell? ⟨w.heap.size, 7, none⟩ = some (.bool x'.s.fa) := cell_of_row V _ 7 _ _ _ HRV.out.row
        obtain ⟨so, sg⟩ := own_setCells (sbCells x') _ (K.length * 9 + 1) _ HoV.out
        rw [flat_last_set (c := mmCells) (sz := 9) (fun _ => rfl) K (q1, q2) (q1, x') 1 (sbCells x') rfl rfl] at so
        have SO := hZ9 (show (V.setCells g0 (K.length * 9 + 1) (sbCells x')).ownsRow w.heap.size 112 9 (.slice (some ⟨g0, 0, none⟩) (K.length + 1) cp) (K ++ [(q1, x')]).length ((K ++ [(q1, x')]).flatMap mmCells) by rw [List.length_append, List.length_singleton]; exact so)
        have HRf := hZ9 (HRV.out.turn sg SO.out (fun p hp => by
         rcases List.mem_append.1 hp with hp | hp
         · exact Or.inl (List.mem_append_left _ hp)
         rw [List.mem_singleton.1 hp]; exact Or.inr rfl))
        have HTh := hZ9 (own_there2 HoV.out (K.length * 9 + 1) 8 (by omega))
        have HPf := hZ9 (show plainM (K ++ [(q1, x')]) = (momF n (l.take (k + 1))).1 by
         have e := Hq.out
         rw [HP2.out, plainM_snoc, plainM_snoc, e]; exact (putM_eq (plainM K) q2.s x'.s tm).symm)
        obtain ⟨hj1, hj2, hj3, hj4, hj5, hj6⟩ := J.out
        clear so sg
        obtain ⟨V2, hV2⟩ : ∃ V2, V2 = V.setCells g0 (K.length * 9 + 1) (sbCells x').toArray.toList := ⟨_, rfl⟩
        have HRf2 := hZ9 (show MomR w (K ++ [(q1, x')]) x' (.slice (some ⟨g0, 0, none⟩) (K.length + 1) cp) V2 by rw [hV2]; exact HRf.out)
        have HV2 := hZ9 hV2
        clear hV2 HRf SO
        repeat (first | ((refine wpList_store_mid rfl _ _ _ rfl g0 (K.length * 9 + 1) (sbCells x').toArray rfl rfl HTh.out (by kernel_rfl) (by simp [sbCells, Value.oneCell']) ?_); rw [← HV2.out]; clear hj1 hj2 hj3 hj4 hj5 hj6 s0 s1 s2 s3 s4 s5 s6 s7) | go_step)
        exact ⟨⟨k + 1, K ++ [(q1, x')], x', by omega, by go_num, HPf, HS2, HRf2.out⟩, by simp [intOf]; omega⟩
      have hq2 : (q1 == tm) = false := beq_eq_false_iff_ne.2 hq
      have Hq := hZ9 hq
      clear hq
      go_big_quiet (fail)
      clear hj1 hj2 hj3 hj4 hj5 hj6 z0 z1
      go_upto_region 11 with (fail)
      obtain ⟨V, hV⟩ : ∃ V, V = Z.drewN nq := ⟨_, rfl⟩
      have hbV : Below Z.heap.size Z V := by rw [hV]; exact below_drewN2 (Below.refl _ _) _
      rw [← hV]
      have HRV := hZ9 (HR2.out.below hbV)
      have HYV := hZ9 ((hbV.block _ (ltB9 HY2.out)).trans HY2.out)
      clear hV hbV
      have e0 := cell_of_row V _ 0 _ _ _ HYV.out
      have s0 : V.cell? ⟨w.heap.size, 0, none⟩ = some (.int .i64 x'.s.id) := cell_of_row V _ 0 _ _ _ HRV.out.row
      have s1 : V.cell? ⟨w.heap.size, 1, none⟩ = some (.int .i64 x'.s.ac) := cell_of_row V _ 1 _ _ _ HRV.out.row
      have s2 : V.cell? ⟨w.heap.size, 2, none⟩ = some (.int .i64 x'.s.si) := cell_of_row V _ 2 _ _ _ HRV.out.row
      have s3 : V.cell? ⟨w.heap.size, 3, none⟩ = some (.string x'.s.plan) := cell_of_row V _ 3 _ _ _ HRV.out.row
      have s4 : V.cell? ⟨w.heap.size, 4, none⟩ = some (.slice x'.na x'.nn x'.nc) := cell_of_row V _ 4 _ _ _ HRV.out.row
      have s5 : V.cell? ⟨w.heap.size, 5, none⟩ = some (.slice x'.pa x'.pn x'.pc) := cell_of_row V _ 5 _ _ _ HRV.out.row
      have s6 : V.cell? ⟨w.heap.size, 6, none⟩ = some (.bool x'.s.su) := cell_of_row V _ 6 _ _ _ HRV.out.row
      have s7 : V.cell? ⟨w.heap.size, 7, none⟩ = some (.bool x'.s.fa) := cell_of_row V _ 7 _ _ _ HRV.out.row
      have HX := hZ9 (RecAt.one (c := mmCells) (sz := 9) V (tm, x') 112 #[.int .i64 tm, .int .i64 x'.s.id, .int .i64 x'.s.ac, .int .i64 x'.s.si, .string x'.s.plan, .slice x'.na x'.nn x'.nc, .slice x'.pa x'.pn x'.pc, .bool x'.s.su, .bool x'.s.fa] rfl)
      have HRW := hZ9 (HRV.out.below ((Below.refl V.heap.size V).alloc (Nat.le_refl _) (Obj.cells #[.int .i64 tm, .int .i64 x'.s.id, .int .i64 x'.s.ac, .int .i64 x'.s.si, .string x'.s.plan, .slice x'.na x'.nn x'.nc, .slice x'.pa x'.pn x'.pc, .bool x'.s.su, .bool x'.s.fa] 112)))
      have hVs := HRV.out.b.size
      go_wp2_with (at_builtin; refine append_rec2 (c := mmCells) (sz := 9) (fun _ => rfl) mm_one 112 107 _ 104 Try.underlying107 Try.momInfo rfl (by decide) rfl _ _ rfl w.heap.size ?hs _ _ (K ++ [(q1, q2)]) [(tm, x')] rfl rfl HRW.out.own HX.out ?hl ?hb ?_)
      case hs => simp; omega
      case hl => unfold maxLen; simp <;> omega
      case hb => simp <;> omega
      intro R hR v5 w5 own5 hg5
      have HRe := hZ9 (show R = (K ++ [(q1, q2)]) ++ [(tm, x')] by rw [hR.out]; first | rfl | simp)
      have HRf := hZ9 (HRW.out.turn hg5 own5 (fun p hp => by
       rw [HRe.out] at hp
       rcases List.mem_append.1 hp with hp | hp
       · exact Or.inl hp
       rw [List.mem_singleton.1 hp]; exact Or.inr rfl))
      have HPf := hZ9 (show plainM R = (momF n (l.take (k + 1))).1 by rw [HP2.out, HRe.out, plainM_snoc, plainM_snoc]; exact (putM_ne (plainM K) (q1, q2.s) tm x'.s Hq.out).symm)
      clear own5 hg5 hR e0 s0 s1 s2 s3 s4 s5 s6 s7 hVs
      go_wp2
      exact ⟨⟨k + 1, R, x', by omega, by go_num, HPf, HS2, HRf.out⟩, by simp [intOf]; omega⟩
    have HE := hZ9 (HMf.out.trans (momStep_no (Or.inr hsn)))
    have hn2 : (sb != n) = true := by simp [hsn]
    clear hn0 hsn
    go_upto_region 6 with (fail)
    rw [← HY.out]
    go_wp2
    exact ⟨⟨k + 1, X, xs, by omega, by go_num, hZ9 (HP.out.trans (by rw [HE.out])), hZ9 (HS.out.trans (by rw [HE.out])), HRY.out⟩, by simp [intOf]; omega⟩
  have HE := hZ9 (show (momF n (l.take k)).1 = (momF n l).1 by rw [List.take_of_length_le (by omega)])
  go_wp2
  go_ret
  exact ⟨a, cp, X, rfl, HR.out.own, HP.out.trans HE.out, HR.out.ok, HR.out.b⟩
theorem alikeB_no {a b : Sb} (h : ¬ view a = view b) : alikeB a b = false := by
 cases hq : alikeB a b with
 | false => rfl
 | true => exact absurd ((alikeB_iff _ _).1 hq) h
theorem alikeB_yes {a b : Sb} (h1 : a.id = b.id) (h2 : a.plan = b.plan) (h3 : a.su = b.su) (h4 : a.fa = b.fa) (h5 : a.prs = b.prs) : alikeB a b = true := by
 unfold alikeB
 rw [h1, h2, h3, h4, h5, decide_eq_true rfl, (sameS_iff _ _).2 rfl, (alikeTs_iff _ _).2 rfl]
 simp
theorem take_all_eq {α : Type} {a b : List α} {k : Nat} (hl : a.length = b.length) (hk : a.length ≤ k) (h : a.take k = b.take k) : a = b := by
 rwa [List.take_of_length_le hk, List.take_of_length_le (by omega)] at h
theorem sub_snoc_eq {α : Type} {a b : List α} {k : Nat} (ha : k < a.length) (hb : k < b.length) (h : a.take k = b.take k) (e : a[k] = b[k]) : a.take (k + 1) = b.take (k + 1) := by
 rw [List.take_succ_eq_append_getElem ha, List.take_succ_eq_append_getElem hb, h, e]
theorem sub_ne_get {α : Type} {a b : List α} {k : Nat} (ha : k < a.length) (hb : k < b.length) (h : ¬ a[k] = b[k]) : a ≠ b := by
 rintro rfl
 exact h rfl
theorem two_rows2 (w : World) (o1 o2 : Obj) : ∃ W, W = (w.alloc o1).alloc o2 ∧ W.heap[w.heap.size]? = some o1 ∧ W.heap[w.heap.size + 1]? = some o2 ∧ Below w.heap.size w W ∧ w.heap.size + 1 < W.heap.size := by
 obtain ⟨h1, h2, h3, h4⟩ := two_rows w o1 o2
 exact ⟨_, rfl, h1, h2, h3, by simp⟩
theorem equal_calls (x y : SbX) (w : World) (hx : StrsAt w (.slice x.pa x.pn x.pc) x.s.prs) (hy : StrsAt w (.slice y.pa y.pn y.pc) y.s.prs) :
 Calls Try.prog 50 #[sbVal x, sbVal y] w fun e w' => e = .returned (.bool (alikeB x.s y.s)) ∧ Below w.heap.size w w' := by
 obtain ⟨⟨i1, i2, i3, i4, nus, prs, su, fa⟩, na, nn, nc, pa, pn, pc⟩ := x
 obtain ⟨⟨j1, j2, j3, j4, mus, qrs, tu, ga⟩, ma, mn, mc, qa, qn, qc⟩ := y
 dsimp only at hx hy
 obtain ⟨W, hW, r0, r1, hw0, hz⟩ := two_rows2 w (Obj.cells #[.int .i64 i1, .int .i64 i2, .int .i64 i3, .string i4, .slice na nn nc, .slice pa pn pc, .bool su, .bool fa] 110) (Obj.cells #[.int .i64 j1, .int .i64 j2, .int .i64 j3, .string j4, .slice ma mn mc, .slice qa qn qc, .bool tu, .bool ga] 110)
 have HX := hZ9 (hx.below hw0)
 have HY := hZ9 (hy.below hw0)
 obtain ⟨a1, c1, e1, hl1, hm1, -⟩ := hx
 cases e1
 obtain ⟨a2, c2, e2, hl2, hm2, -⟩ := hy
 cases e2
 have hm1 := hm1.1
 have hm2 := hm2.1
 unfold maxLen at hm1 hm2
 unfold sbVal
 dsimp only
 have HW := hZ9 hW
 have Hb := hZ9 hw0
 have x0 := cell_of_row W _ 0 _ _ _ r0
 have y0 := cell_of_row W _ 0 _ _ _ r1
 have x3 := cell_of_row W _ 3 _ _ _ r0
 have y3 := cell_of_row W _ 3 _ _ _ r1
 have x5 := cell_of_row W _ 5 _ _ _ r0
 have y5 := cell_of_row W _ 5 _ _ _ r1
 have x6 := cell_of_row W _ 6 _ _ _ r0
 have y6 := cell_of_row W _ 6 _ _ _ r1
 have x7 := cell_of_row W _ 7 _ _ _ r0
 have y7 := cell_of_row W _ 7 _ _ _ r1
 clear hW r0 r1 hw0 hz
 by_cases e1 : i1 = j1
 · have p1 : (i1 == j1) = true := beq_iff_eq.2 e1
   have q1 : (i1 != j1) = false := by rw [bne, p1]; rfl
   have E1 := hZ9 e1
   clear e1
   by_cases e2 : i4 = j4
   · have p2 : (i4.toList == j4.toList) = true := (sameS_iff i4 j4).2 e2
     have q2 : (i4.toList != j4.toList) = false := by rw [bne, p2]; rfl
     have E2 := hZ9 e2
     clear e2
     by_cases e3 : su = tu
     · have p3 : (su == tu) = true := beq_iff_eq.2 e3
       have q3 : (su != tu) = false := by rw [bne, p3]; rfl
       have E3 := hZ9 e3
       clear e3
       by_cases e4 : fa = ga
       · have p4 : (fa == ga) = true := beq_iff_eq.2 e4
         have q4 : (fa != ga) = false := by rw [bne, p4]; rfl
         have E4 := hZ9 e4
         clear e4
         by_cases e5 : prs.length = qrs.length
         · have p5 : ((prs.length : Int) == (qrs.length : Int)) = true := beq_iff_eq.2 (by omega)
           have q5 : ((prs.length : Int) != (qrs.length : Int)) = false := by rw [bne, p5]; rfl
           have Hl := hZ9 e5
           have hll : (prs.length : Int) ≤ (qrs.length : Int) := by omega
           have hll2 : (qrs.length : Int) ≤ (prs.length : Int) := by omega
           clear e5
           go_enter Try.func50, Try.ntmps50
           go_upto_region 1 with (fail)
           rw [← HW.out]
           go_wp2_with fail
           go_loop [45] (fun i => ∃ k : Nat, k ≤ prs.length ∧ i = .int .i64 k ∧ prs.take k = qrs.take k) (fun i => prs.length - (intOf i).toNat)
           case atStart => exact ⟨0, Nat.zero_le _, rfl, rfl⟩
           case round =>
            obtain ⟨k, hk, rfl, hn⟩ := hrel
            have Hn := hZ9 hn
            clear hn
            by_cases hlt : k < prs.length
            · have hlt2 : k < qrs.length := by omega
              obtain ⟨av2, cap2, ee, -, -, hxx⟩ := HX.out
              cases ee
              obtain ⟨b1, o1, rfl, hB1, hxx⟩ := hxx (by rintro rfl; cases hlt)
              obtain ⟨u0, -⟩ := hxx k hlt
              obtain ⟨av3, cap3, ee, -, -, hyy⟩ := HY.out
              cases ee
              obtain ⟨b2, o2, rfl, hB2, hyy⟩ := hyy (by rintro rfl; cases hlt2)
              obtain ⟨v0, -⟩ := hyy k hlt2
              rw [Nat.mul_one] at u0 v0
              have hk0 : (0 : Int) ≤ (k : Int) := Int.natCast_nonneg _
              have hk1 : (k : Int) < (prs.length : Int) := by omega
              have hk2 : (k : Int) < (qrs.length : Int) := by omega
              have HS := hZ9 (fun h => sub_snoc_eq hlt hlt2 Hn.out h)
              have HN := hZ9 (fun h => @sub_ne_get _ prs qrs k hlt hlt2 h)
              clear hxx hyy
              generalize prs[k] = p at *
              generalize qrs[k] = q at *
              by_cases hpq : p = q
              · have HE := hZ9 (HS.out hpq)
                have hq1 : (p.toList == q.toList) = true := (sameS_iff p q).2 hpq
                have hq2 : (p.toList != q.toList) = false := by rw [bne, hq1]; rfl
                clear HS HN hpq
                go_wp2
                exact ⟨⟨k + 1, by omega, by go_num, HE.out⟩, by simp [intOf]; omega⟩
              have HE := hZ9 (show alikeB ⟨i1, i2, i3, i4, nus, prs, su, fa⟩ ⟨j1, j2, j3, j4, mus, qrs, tu, ga⟩ = false from alikeB_no (fun h => HN.out hpq (congrArg (·.prs) h)))
              have hq1 : (p.toList == q.toList) = false := by
               cases hq : (p.toList == q.toList) with
               | false => rfl
               | true => exact absurd ((sameS_iff p q).1 hq) hpq
              have hq2 : (p.toList != q.toList) = true := by rw [bne, hq1]; rfl
              clear HS HN hpq
              go_wp2
              go_ret
              exact ⟨ret_bool HE.out.symm, Hb.out⟩
            have HE := hZ9 (show alikeB ⟨i1, i2, i3, i4, nus, prs, su, fa⟩ ⟨j1, j2, j3, j4, mus, qrs, tu, ga⟩ = true from alikeB_yes E1.out E2.out E3.out E4.out (take_all_eq Hl.out (Nat.le_of_not_lt hlt) Hn.out))
            go_wp2
            go_ret
            exact ⟨ret_bool HE.out.symm, Hb.out⟩
         have p5 : ((prs.length : Int) == (qrs.length : Int)) = false := beq_eq_false_iff_ne.2 (by omega)
         have q5 : ((prs.length : Int) != (qrs.length : Int)) = true := by rw [bne, p5]; rfl
         have HE := hZ9 (show alikeB ⟨i1, i2, i3, i4, nus, prs, su, fa⟩ ⟨j1, j2, j3, j4, mus, qrs, tu, ga⟩ = false from alikeB_no (fun h => e5 (by rw [show prs = qrs from congrArg (·.prs) h])))
         clear e5
         go_enter Try.func50, Try.ntmps50
         go_upto_region 1 with (fail)
         rw [← HW.out]
         go_wp2
         go_ret
         exact ⟨ret_bool HE.out.symm, Hb.out⟩
       have p4 : (fa == ga) = false := beq_eq_false_iff_ne.2 e4
       have q4 : (fa != ga) = true := by rw [bne, p4]; rfl
       have HE := hZ9 (show alikeB ⟨i1, i2, i3, i4, nus, prs, su, fa⟩ ⟨j1, j2, j3, j4, mus, qrs, tu, ga⟩ = false from alikeB_no (fun h => e4 (congrArg (·.fa) h)))
       clear e4
       go_enter Try.func50, Try.ntmps50
       go_upto_region 1 with (fail)
       rw [← HW.out]
       go_wp2
       go_ret
       exact ⟨ret_bool HE.out.symm, Hb.out⟩
     have p3 : (su == tu) = false := beq_eq_false_iff_ne.2 e3
     have q3 : (su != tu) = true := by rw [bne, p3]; rfl
     have HE := hZ9 (show alikeB ⟨i1, i2, i3, i4, nus, prs, su, fa⟩ ⟨j1, j2, j3, j4, mus, qrs, tu, ga⟩ = false from alikeB_no (fun h => e3 (congrArg (·.su) h)))
     clear e3
     go_enter Try.func50, Try.ntmps50
     go_upto_region 1 with (fail)
     rw [← HW.out]
     go_wp2
     go_ret
     exact ⟨ret_bool HE.out.symm, Hb.out⟩
   have p2 : (i4.toList == j4.toList) = false := (by cases hq : (i4.toList == j4.toList) with | false => rfl | true => exact absurd ((sameS_iff i4 j4).1 hq) e2)
   have q2 : (i4.toList != j4.toList) = true := by rw [bne, p2]; rfl
   have HE := hZ9 (show alikeB ⟨i1, i2, i3, i4, nus, prs, su, fa⟩ ⟨j1, j2, j3, j4, mus, qrs, tu, ga⟩ = false from alikeB_no (fun h => e2 (congrArg (·.plan) h)))
   clear e2
   go_enter Try.func50, Try.ntmps50
   go_upto_region 1 with (fail)
   rw [← HW.out]
   go_wp2
   go_ret
   exact ⟨ret_bool HE.out.symm, Hb.out⟩
 have p1 : (i1 == j1) = false := beq_eq_false_iff_ne.2 e1
 have q1 : (i1 != j1) = true := by rw [bne, p1]; rfl
 have HE := hZ9 (show alikeB ⟨i1, i2, i3, i4, nus, prs, su, fa⟩ ⟨j1, j2, j3, j4, mus, qrs, tu, ga⟩ = false from alikeB_no (fun h => e1 (congrArg (·.id) h)))
 clear e1
 go_enter Try.func50, Try.ntmps50
 go_upto_region 1 with (fail)
 rw [← HW.out]
 go_wp2
 go_ret
 exact ⟨ret_bool HE.out.symm, Hb.out⟩
theorem spells1_calls (p q : Int × SbX) (base : Nat) (w : World) (hp : SbO base w p.2) (hq : SbO base w q.2) :
 Calls Try.prog 49 #[mmVal p, mmVal q] w fun e w' => e = .returned (.bool (alikeB p.2.s q.2.s)) ∧ Below w.heap.size w w' := by
 have HE := hZ9 (fun w1 (hb : Below w.heap.size w w1) => equal_calls p.2 q.2 w1 (hp.strs.below hb) (hq.strs.below hb))
 obtain ⟨t, ⟨⟨i1, i2, i3, i4, nus, prs, su, fa⟩, na, nn, nc, pa, pn, pc⟩⟩ := p
 obtain ⟨u, ⟨⟨j1, j2, j3, j4, mus, qrs, tu, ga⟩, ma, mn, mc, qa, qn, qc⟩⟩ := q
 dsimp only at HE
 unfold mmVal mmCells
 dsimp only [sbCells]
 clear hp hq
 go_enter Try.func49, Try.ntmps49
 go_wp2_with (go_at_call 50; refine (HE.out _ (by go_grown)).mono ?_; rintro e w1 ⟨rfl, hb1⟩)
 go_ret
 refine ⟨rfl, Below.trans ?_ (hb1.mono ?_)⟩
 · go_grown
 simp; omega
theorem spells2_calls (p q : Int × SbX) (w : World) :
 Calls Try.prog 51 #[mmVal p, mmVal q] w fun e w' => e = .returned (mmVal p) ∧ Below w.heap.size w w' := by
 obtain ⟨t, ⟨⟨i1, i2, i3, i4, nus, prs, su, fa⟩, na, nn, nc, pa, pn, pc⟩⟩ := p
 obtain ⟨u, ⟨⟨j1, j2, j3, j4, mus, qrs, tu, ga⟩, ma, mn, mc, qa, qn, qc⟩⟩ := q
 unfold mmVal mmCells
 dsimp only [sbCells]
 obtain ⟨W, hW, r0, -, r2, hw0, hz⟩ := three_rows w (Obj.cells #[.int .i64 t, .int .i64 i1, .int .i64 i2, .int .i64 i3, .string i4, .slice na nn nc, .slice pa pn pc, .bool su, .bool fa] 112) (Obj.cells #[.int .i64 u, .int .i64 j1, .int .i64 j2, .int .i64 j3, .string j4, .slice ma mn mc, .slice qa qn qc, .bool tu, .bool ga] 112) (Obj.cells #[.int .i64 0, .int .i64 0, .int .i64 0, .int .i64 0, .string ⟨#[]⟩, .slice none 0 0, .slice none 0 0, .bool false, .bool false] 112)
 have tQ := fun j => cell_of_row W _ j _ _ _ r0
 have x0 := tQ 0
 have x1 := tQ 1
 have x2 := tQ 2
 have x3 := tQ 3
 have x4 := tQ 4
 have x5 := tQ 5
 have x6 := tQ 6
 have x7 := tQ 7
 have x8 := tQ 8
 clear tQ
 have HbF := hZ9 (below_setRow1 hw0 (show w.heap.size ≤ w.heap.size + 1 + 1 by omega) #[.int .i64 t, .int .i64 i1, .int .i64 i2, .int .i64 i3, .string i4, .slice na nn nc, .slice pa pn pc, .bool su, .bool fa])
 have tQ := fun j => cell_setRow_same W (w.heap.size + 1 + 1) j _ #[.int .i64 t, .int .i64 i1, .int .i64 i2, .int .i64 i3, .string i4, .slice na nn nc, .slice pa pn pc, .bool su, .bool fa] _ _ r2
 have t0 := tQ 0
 have t1 := tQ 1
 have t2 := tQ 2
 have t3 := tQ 3
 have t4 := tQ 4
 have t5 := tQ 5
 have t6 := tQ 6
 have t7 := tQ 7
 have t8 := tQ 8
 clear tQ
 have HW := hZ9 hW
 have R2 := hZ9 r2
 clear hW r0 r2 hw0 hz
 go_enter Try.func51, Try.ntmps51
 go_upto_region 1 with (fail)
 rw [← HW.out]
 repeat (first | refine wpList_store_row rfl _ _ _ rfl (w.heap.size + 1 + 1) #[.int .i64 t, .int .i64 i1, .int .i64 i2, .int .i64 i3, .string i4, .slice na nn nc, .slice pa pn pc, .bool su, .bool fa] rfl rfl 112 _ R2.out (by kernel_rfl) rfl (by simp [Value.oneCell']) ?_ | go_step)
 exact bodyPost_ret (v := .agg #[.int .i64 t, .int .i64 i1, .int .i64 i2, .int .i64 i3, .string i4, .slice na nn nc, .slice pa pn pc, .bool su, .bool fa]) (by simp [results, Try.results51, go_sem, t0, t1, t2, t3, t4, t5, t6, t7, t8]) rfl ⟨rfl, HbF.out⟩
theorem per_one2 (p : Int × Int) : ∀ u ∈ perCells p, u.oneCell' = true := by
 intro u hu
 unfold perCells at hu
 simp only [List.mem_cons, List.not_mem_nil, or_false] at hu
 rcases hu with rfl | rfl <;> rfl
theorem during1_calls (a b c d : Int) (w : World) : Calls Try.prog 40 #[.agg #[.int .i64 a, .int .i64 b], .agg #[.int .i64 c, .int .i64 d]] w fun e w' => e = .returned (.bool (decide (b = c))) ∧ Below w.heap.size w w' := by
 by_cases h : b = c
 · have e1 : (b == c) = true := beq_iff_eq.2 h
   have HE := hZ9 (show decide (b = c) = true from decide_eq_true h)
   clear h
   go_enter Try.func40, Try.ntmps40
   go_wp2
   go_ret
   exact ⟨ret_bool HE.out.symm, by go_grown⟩
 have e1 : (b == c) = false := beq_eq_false_iff_ne.2 h
 have HE := hZ9 (show decide (b = c) = false from decide_eq_false h)
 clear h
 go_enter Try.func40, Try.ntmps40
 go_wp2
 go_ret
 exact ⟨ret_bool HE.out.symm, by go_grown⟩
theorem during2_calls (a b c d : Int) (w : World) : Calls Try.prog 41 #[.agg #[.int .i64 a, .int .i64 b], .agg #[.int .i64 c, .int .i64 d]] w fun e w' => e = .returned (.agg #[.int .i64 a, .int .i64 d]) ∧ Below w.heap.size w w' := by
 go_enter Try.func41, Try.ntmps41
 go_wp2
 refine bodyPost_ret (v := .agg #[.int .i64 a, .int .i64 d]) (by simp [results, Try.results41, go_sem]) rfl ⟨rfl, ?_⟩
 go_grown
def MmJ (L : List (Int × SbX)) (w : World) (e : Ending) (w' : World) : Prop := ∃ (a : Option Addr) (c : Nat) (X : List (Int × SbX)), e = .returned (.slice a X.length c) ∧ w'.ownsRow w.heap.size 112 9 (.slice a X.length c) X.length (X.flatMap mmCells) ∧ plainM X = jmL (plainM L) ∧ (∀ p ∈ X, p ∈ L) ∧ Below w.heap.size w w'
theorem joinedM_take (L : List (Int × SbX)) (k : Nat) (h : k < L.length) : jmL ((plainM L).take (k + 1)) = jmStep (jmL ((plainM L).take k)) ((L[k]).1, (L[k]).2.s) := by
 rw [jmL_take (plainM L) k (by rw [plainM_len]; exact h)]
 unfold plainM
 rw [List.getElem_map]
theorem joinedM_calls (base : Nat) (v : Value) (L : List (Int × SbX)) (w : World) (h : RecAt mmCells 9 w v L) (hl : L.length ≤ 10000) (hok : MmsOk base w L) :
 Calls Try.prog 47 #[v, .func (.func 49) #[] #[], .func (.func 51) #[] #[]] w (MmJ L w) := by
 have HA := hZ9 h
 have HOk := hZ9 hok
 obtain ⟨av, cap, rfl, hcl, hcm⟩ := rec_shape h
 unfold maxLen at hcm
 clear h hok
 go_enter Try.func47, Try.ntmps47
 go_wp2_with fail
 go_loopw [7, 13] (fun vo i wr => ∃ (k : Nat) (O : List (Int × SbX)), k ≤ L.length ∧ i = .int .i64 k ∧ RowKit.Hid (plainM O = jmL ((plainM L).take k) ∧ ∀ p ∈ O, p ∈ L) ∧ wr.ownsRow w.heap.size 112 9 vo O.length (O.flatMap mmCells) ∧ Below w.heap.size w wr) (fun _ i _ => L.length - (intOf i).toNat)
 case atStart => exact ⟨0, [], Nat.zero_le _, rfl, hZ9 (⟨rfl, fun p hp => by cases hp⟩), World.ownsRow_nil _ _ _ _, Below.refl _ _⟩
 case round =>
  obtain ⟨wo, rfl⟩ : ∃ wo : World, wo = wr := ⟨_, rfl⟩
  obtain ⟨k, O, hk, rfl, HP, hown, hb⟩ := hrel
  obtain ⟨a, cp, rfl, hc1, hc2⟩ := own_shape hown
  unfold maxLen at hc2
  have Hown := hZ9 hown
  have Hb := hZ9 hb
  have hOl : O.length ≤ k := by rw [← plainM_len O, HP.out.1]; exact jmL_len _ k (by rw [plainM_len]; exact hk)
  by_cases hlt : k < L.length
  · have hk1 : (k : Int) < (L.length : Int) := by omega
    have hk0 : (0 : Int) ≤ (k : Int) := Int.natCast_nonneg _
    have HTk := hZ9 (joinedM_take L k hlt)
    have HMem := hZ9 (List.getElem_mem hlt : L[k] ∈ L)
    obtain ⟨a2, c2, e2, -, -, hx⟩ := (HA.out.below hb)
    cases e2
    obtain ⟨bb, o, rfl, hB, hx⟩ := hx (by rintro rfl; cases hlt)
    have hx := hx k hlt
    have x0 : wo.cell? ⟨bb, o + k * 9, none⟩ = some (.int .i64 (L[k]).1) := hx 0 (by decide)
    have x1 : wo.cell? ⟨bb, o + k * 9 + 1, none⟩ = some (.int .i64 (L[k]).2.s.id) := hx 1 (by decide)
    have x2 : wo.cell? ⟨bb, o + k * 9 + 2, none⟩ = some (.int .i64 (L[k]).2.s.ac) := hx 2 (by decide)
    have x3 : wo.cell? ⟨bb, o + k * 9 + 3, none⟩ = some (.int .i64 (L[k]).2.s.si) := hx 3 (by decide)
    have x4 : wo.cell? ⟨bb, o + k * 9 + 4, none⟩ = some (.string (L[k]).2.s.plan) := hx 4 (by decide)
    have x5 : wo.cell? ⟨bb, o + k * 9 + 5, none⟩ = some (.slice (L[k]).2.na (L[k]).2.nn (L[k]).2.nc) := hx 5 (by decide)
    have x6 : wo.cell? ⟨bb, o + k * 9 + 6, none⟩ = some (.slice (L[k]).2.pa (L[k]).2.pn (L[k]).2.pc) := hx 6 (by decide)
    have x7 : wo.cell? ⟨bb, o + k * 9 + 7, none⟩ = some (.bool (L[k]).2.s.su) := hx 7 (by decide)
    have x8 : wo.cell? ⟨bb, o + k * 9 + 8, none⟩ = some (.bool (L[k]).2.s.fa) := hx 8 (by decide)
    clear hx hB hown hb
    generalize L[k] = x at *
    obtain ⟨Y, hY⟩ : ∃ Y, Y = wo.alloc (Obj.cells #[.int .i64 x.1, .int .i64 x.2.s.id, .int .i64 x.2.s.ac, .int .i64 x.2.s.si, .string x.2.s.plan, .slice x.2.na x.2.nn x.2.nc, .slice x.2.pa x.2.pn x.2.pc, .bool x.2.s.su, .bool x.2.s.fa] 112) := ⟨_, rfl⟩
    have hbY : Below wo.heap.size wo Y := by rw [hY]; go_grown
    have HYr := hZ9 (show Y.heap[wo.heap.size]? = some (Obj.cells #[.int .i64 x.1, .int .i64 x.2.s.id, .int .i64 x.2.s.ac, .int .i64 x.2.s.si, .string x.2.s.plan, .slice x.2.na x.2.nn x.2.nc, .slice x.2.pa x.2.pn x.2.pc, .bool x.2.s.su, .bool x.2.s.fa] 112) by rw [hY]; exact heap_alloc_new _ _)
    have HbY := hZ9 (Hb.out.trans (hbY.mono Hb.out.size))
    have HownY := hZ9 (ownsRow_below Hown.out hbY)
    have HY := hZ9 hY
    have hwY : wo.heap.size < Y.heap.size := (ltB9 HYr.out)
    clear hbY hY
    go_upto_region 6 with (fail)
    rw [← HY.out]
    by_cases hO : O = []
    · subst hO
      have hj0 : decide ((0 : Int) < 0) = false := by decide
      go_big_quiet (fail)
      obtain ⟨w2, hV⟩ : ∃ w2, w2 = Y.drewN nq := ⟨_, rfl⟩
      have hY2 : Below Y.heap.size Y w2 := by rw [hV]; exact below_drewN2 (Below.refl _ _) _
      rw [← hV]
      clear hV x0 x1 x2 x3 x4 x5 x6 x7 x8
      have HbA := hZ9 (HbY.out.trans (hY2.mono HbY.out.size))
      have HownA := hZ9 (ownsRow_below HownY.out hY2)
      have rA := (hY2.block _ hwY).trans HYr.out
      have c0 : w2.cell? ⟨wo.heap.size, 0, none⟩ = some (.int .i64 x.1) := cell_of_row w2 _ 0 _ _ _ rA
      have c1 : w2.cell? ⟨wo.heap.size, 1, none⟩ = some (.int .i64 x.2.s.id) := cell_of_row w2 _ 1 _ _ _ rA
      have c2 : w2.cell? ⟨wo.heap.size, 2, none⟩ = some (.int .i64 x.2.s.ac) := cell_of_row w2 _ 2 _ _ _ rA
      have c3 : w2.cell? ⟨wo.heap.size, 3, none⟩ = some (.int .i64 x.2.s.si) := cell_of_row w2 _ 3 _ _ _ rA
      have c4 : w2.cell? ⟨wo.heap.size, 4, none⟩ = some (.string x.2.s.plan) := cell_of_row w2 _ 4 _ _ _ rA
      have c5 : w2.cell? ⟨wo.heap.size, 5, none⟩ = some (.slice x.2.na x.2.nn x.2.nc) := cell_of_row w2 _ 5 _ _ _ rA
      have c6 : w2.cell? ⟨wo.heap.size, 6, none⟩ = some (.slice x.2.pa x.2.pn x.2.pc) := cell_of_row w2 _ 6 _ _ _ rA
      have c7 : w2.cell? ⟨wo.heap.size, 7, none⟩ = some (.bool x.2.s.su) := cell_of_row w2 _ 7 _ _ _ rA
      have c8 : w2.cell? ⟨wo.heap.size, 8, none⟩ = some (.bool x.2.s.fa) := cell_of_row w2 _ 8 _ _ _ rA
      have hbs := HbA.out.size
      have HX := hZ9 (RecAt.one (c := mmCells) (sz := 9) w2 x 112 #[.int .i64 x.1, .int .i64 x.2.s.id, .int .i64 x.2.s.ac, .int .i64 x.2.s.si, .string x.2.s.plan, .slice x.2.na x.2.nn x.2.nc, .slice x.2.pa x.2.pn x.2.pc, .bool x.2.s.su, .bool x.2.s.fa] rfl)
      clear rA hY2
      go_upto_region 8 with (fail)
      go_wp2_with (at_builtin; refine append_rec2 (c := mmCells) (sz := 9) (fun _ => rfl) mm_one 112 107 _ 104 Try.underlying107 Try.momInfo rfl (by decide) rfl _ _ rfl w.heap.size ?hs _ _ [] [x] rfl rfl (HownA.out.alloc _) HX.out ?hl ?hb ?_)
      case hs => simp <;> omega
      case hl => unfold maxLen; simp <;> omega
      case hb => simp <;> omega
      intro R hR v5 w5 own5 hg5
      have HRe := hZ9 (show R = [] ++ [x] by rw [hR.out]; first | rfl | simp)
      have Own5 := hZ9 own5
      have Hb5 := hZ9 ((HbA.out.alloc hbs _).grown hg5 (by simp <;> omega) (fun g hg => (ownsRow_block HownA.out g hg).1))
      clear own5 hg5 hR hbs
      go_wp2
      exact ⟨⟨k + 1, R, by omega, by go_num, hZ9 (⟨by rw [HRe.out, HTk.out, ← HP.out.1]; exact rfl, fun p hp => by
       rw [HRe.out] at hp
       rcases List.mem_append.1 hp with hp | hp
       · first | exact HP.out.2 p hp | cases hp
       rw [List.mem_singleton.1 hp]; exact HMem.out⟩), Own5.out, Hb5.out⟩, by simp [intOf]; omega⟩
    obtain ⟨M, q, rfl⟩ : ∃ M q, O = M ++ [q] := ⟨_, _, (List.dropLast_concat_getLast hO).symm⟩
    clear hO
    obtain ⟨g0, rfl, hln, hgB, hgl, hownM, hcell⟩ := own_last (c := mmCells) (sz := 9) (fun _ => rfl) HownY.out
    have HownM := hZ9 hownM
    have z0 : Y.cell? ⟨g0, M.length * 9, none⟩ = some (.int .i64 q.1) := hcell 0 (by decide)
    have z1 : Y.cell? ⟨g0, M.length * 9 + 1, none⟩ = some (.int .i64 q.2.s.id) := hcell 1 (by decide)
    have z2 : Y.cell? ⟨g0, M.length * 9 + 2, none⟩ = some (.int .i64 q.2.s.ac) := hcell 2 (by decide)
    have z3 : Y.cell? ⟨g0, M.length * 9 + 3, none⟩ = some (.int .i64 q.2.s.si) := hcell 3 (by decide)
    have z4 : Y.cell? ⟨g0, M.length * 9 + 4, none⟩ = some (.string q.2.s.plan) := hcell 4 (by decide)
    have z5 : Y.cell? ⟨g0, M.length * 9 + 5, none⟩ = some (.slice q.2.na q.2.nn q.2.nc) := hcell 5 (by decide)
    have z6 : Y.cell? ⟨g0, M.length * 9 + 6, none⟩ = some (.slice q.2.pa q.2.pn q.2.pc) := hcell 6 (by decide)
    have z7 : Y.cell? ⟨g0, M.length * 9 + 7, none⟩ = some (.bool q.2.s.su) := hcell 7 (by decide)
    have z8 : Y.cell? ⟨g0, M.length * 9 + 8, none⟩ = some (.bool q.2.s.fa) := hcell 8 (by decide)
    rw [hln] at hc1 hOl ⊢
    have hj1 : IntKind.i64.wrap ((M.length : Int) + 1 - 1) = (M.length : Int) := by rw [Int.add_sub_cancel]; exact IntWalk.i64_in _ (by omega)
    have hj2 : (0 : Int) < (M.length : Int) + 1 := by omega
    have hj3 : ((M.length : Int) + 1).toNat = M.length + 1 := by omega
    have hj4 : IntKind.i64.wrap (M.length : Int) = (M.length : Int) := IntWalk.i64_in _ (by omega)
    have hj5 : (0 : Int) ≤ (M.length : Int) := Int.natCast_nonneg _
    have hj6 : (M.length : Int) < (M.length : Int) + 1 := by omega
    have J := hZ9 (And.intro hj1 (And.intro hj2 (And.intro hj3 (And.intro hj4 (And.intro hj5 hj6)))))
    clear hownM hcell
    have HQm := hZ9 (HP.out.2 q (by simp))
    have HownL := hZ9 (show Y.ownsRow w.heap.size 112 9 (.slice (some ⟨g0, 0, none⟩) (M.length + 1) cp) (M ++ [q]).length ((M ++ [q]).flatMap mmCells) by rw [show (M ++ [q]).length = M.length + 1 by simp]; exact HownM.out)
    have Hyc := hZ9 (show ∀ p : BelowOf Y, p.w.cell? ⟨wo.heap.size, 0, none⟩ = some (.int .i64 x.1) ∧ p.w.cell? ⟨wo.heap.size, 1, none⟩ = some (.int .i64 x.2.s.id) ∧ p.w.cell? ⟨wo.heap.size, 2, none⟩ = some (.int .i64 x.2.s.ac) ∧ p.w.cell? ⟨wo.heap.size, 3, none⟩ = some (.int .i64 x.2.s.si) ∧ p.w.cell? ⟨wo.heap.size, 4, none⟩ = some (.string x.2.s.plan) ∧ p.w.cell? ⟨wo.heap.size, 5, none⟩ = some (.slice x.2.na x.2.nn x.2.nc) ∧ p.w.cell? ⟨wo.heap.size, 6, none⟩ = some (.slice x.2.pa x.2.pn x.2.pc) ∧ p.w.cell? ⟨wo.heap.size, 7, none⟩ = some (.bool x.2.s.su) ∧ p.w.cell? ⟨wo.heap.size, 8, none⟩ = some (.bool x.2.s.fa) from fun p => by
     have r := (p.h.block _ hwY).trans HYr.out
     exact ⟨cell_of_row p.w _ 0 _ _ _ r, cell_of_row p.w _ 1 _ _ _ r, cell_of_row p.w _ 2 _ _ _ r, cell_of_row p.w _ 3 _ _ _ r, cell_of_row p.w _ 4 _ _ _ r, cell_of_row p.w _ 5 _ _ _ r, cell_of_row p.w _ 6 _ _ _ r, cell_of_row p.w _ 7 _ _ _ r, cell_of_row p.w _ 8 _ _ _ r⟩)
    have Hzc := hZ9 (show ∀ p : BelowOf Y, p.w.cell? ⟨g0, M.length * 9, none⟩ = some (.int .i64 q.1) ∧ p.w.cell? ⟨g0, M.length * 9 + 1, none⟩ = some (.int .i64 q.2.s.id) ∧ p.w.cell? ⟨g0, M.length * 9 + 2, none⟩ = some (.int .i64 q.2.s.ac) ∧ p.w.cell? ⟨g0, M.length * 9 + 3, none⟩ = some (.int .i64 q.2.s.si) ∧ p.w.cell? ⟨g0, M.length * 9 + 4, none⟩ = some (.string q.2.s.plan) ∧ p.w.cell? ⟨g0, M.length * 9 + 5, none⟩ = some (.slice q.2.na q.2.nn q.2.nc) ∧ p.w.cell? ⟨g0, M.length * 9 + 6, none⟩ = some (.slice q.2.pa q.2.pn q.2.pc) ∧ p.w.cell? ⟨g0, M.length * 9 + 7, none⟩ = some (.bool q.2.s.su) ∧ p.w.cell? ⟨g0, M.length * 9 + 8, none⟩ = some (.bool q.2.s.fa) from fun p => ⟨BelowOf.cell (a := ⟨g0, M.length * 9, none⟩) hgl z0 p, BelowOf.cell (a := ⟨g0, M.length * 9 + 1, none⟩) hgl z1 p, BelowOf.cell (a := ⟨g0, M.length * 9 + 2, none⟩) hgl z2 p, BelowOf.cell (a := ⟨g0, M.length * 9 + 3, none⟩) hgl z3 p, BelowOf.cell (a := ⟨g0, M.length * 9 + 4, none⟩) hgl z4 p, BelowOf.cell (a := ⟨g0, M.length * 9 + 5, none⟩) hgl z5 p, BelowOf.cell (a := ⟨g0, M.length * 9 + 6, none⟩) hgl z6 p, BelowOf.cell (a := ⟨g0, M.length * 9 + 7, none⟩) hgl z7 p, BelowOf.cell (a := ⟨g0, M.length * 9 + 8, none⟩) hgl z8 p⟩)
    have HT1 := hZ9 (show ∀ W, Below Y.heap.size Y W → Calls Try.prog 49 #[mmVal q, mmVal x] W fun e w' => e = .returned (.bool (alikeB q.2.s x.2.s)) ∧ Below W.heap.size W w' from fun W hW => spells1_calls q x base W ((HOk.out q HQm.out).below (HbY.out.trans (hW.mono HbY.out.size))) ((HOk.out x HMem.out).below (HbY.out.trans (hW.mono HbY.out.size))))
    have hrr := Below.refl Y.heap.size Y
    have y0 := fun p : BelowOf Y => (Hyc.out p).1
    have u0 := fun p : BelowOf Y => (Hzc.out p).1
    have y1 := fun p : BelowOf Y => (Hyc.out p).2.1
    have u1 := fun p : BelowOf Y => (Hzc.out p).2.1
    have y2 := fun p : BelowOf Y => (Hyc.out p).2.2.1
    have u2 := fun p : BelowOf Y => (Hzc.out p).2.2.1
    have y3 := fun p : BelowOf Y => (Hyc.out p).2.2.2.1
    have u3 := fun p : BelowOf Y => (Hzc.out p).2.2.2.1
    have y4 := fun p : BelowOf Y => (Hyc.out p).2.2.2.2.1
    have u4 := fun p : BelowOf Y => (Hzc.out p).2.2.2.2.1
    have y5 := fun p : BelowOf Y => (Hyc.out p).2.2.2.2.2.1
    have u5 := fun p : BelowOf Y => (Hzc.out p).2.2.2.2.2.1
    have y6 := fun p : BelowOf Y => (Hyc.out p).2.2.2.2.2.2.1
    have u6 := fun p : BelowOf Y => (Hzc.out p).2.2.2.2.2.2.1
    have y7 := fun p : BelowOf Y => (Hyc.out p).2.2.2.2.2.2.2.1
    have u7 := fun p : BelowOf Y => (Hzc.out p).2.2.2.2.2.2.2.1
    have y8 := fun p : BelowOf Y => (Hyc.out p).2.2.2.2.2.2.2.2
    have u8 := fun p : BelowOf Y => (Hzc.out p).2.2.2.2.2.2.2.2
    clear x0 x1 x2 x3 x4 x5 x6 x7 x8 z0 z1 z2 z3 z4 z5 z6 z7 z8
    cases htg : alikeB q.2.s x.2.s with
    | true =>
     rw [htg] at HT1
     have Htg := hZ9 htg
     clear htg
     refine wp_region_quiet_below hrr (by kernel_rfl) (by kernel_rfl) ?_
     repeat (go_big_quiet_step (first | (go_at_call 49; refine calls_below_of (HT1.out _ (BelowOf.h _)) (fun e w' h => h))))
     refine wpQuiet_nil ?_
     intro w2 hw2
     have hY2 : Below Y.heap.size Y w2 := by obtain ⟨pq, rfl⟩ := hw2; exact pq.h
     clear hw2 y0 u0 y1 u1 y2 u2 y3 u3 y4 u4 y5 u5 y6 u6 y7 u7 y8 u8 hrr
     have HY2 := hZ9 hY2
     have Hown2 := hZ9 (ownsRow_below HownM.out hY2)
     have HT2 := hZ9 (show ∀ W, Below w2.heap.size w2 W → Calls Try.prog 51 #[mmVal q, mmVal x] W fun e w' => e = .returned (mmVal q) ∧ Below W.heap.size W w' from fun W hW => spells2_calls q x W)
     have HC2 := hZ9 (show ∀ W, Below w2.heap.size w2 W → (W.cell? ⟨wo.heap.size, 0, none⟩ = some (.int .i64 x.1) ∧ W.cell? ⟨wo.heap.size, 1, none⟩ = some (.int .i64 x.2.s.id) ∧ W.cell? ⟨wo.heap.size, 2, none⟩ = some (.int .i64 x.2.s.ac) ∧ W.cell? ⟨wo.heap.size, 3, none⟩ = some (.int .i64 x.2.s.si) ∧ W.cell? ⟨wo.heap.size, 4, none⟩ = some (.string x.2.s.plan) ∧ W.cell? ⟨wo.heap.size, 5, none⟩ = some (.slice x.2.na x.2.nn x.2.nc) ∧ W.cell? ⟨wo.heap.size, 6, none⟩ = some (.slice x.2.pa x.2.pn x.2.pc) ∧ W.cell? ⟨wo.heap.size, 7, none⟩ = some (.bool x.2.s.su) ∧ W.cell? ⟨wo.heap.size, 8, none⟩ = some (.bool x.2.s.fa)) ∧ (W.cell? ⟨g0, M.length * 9, none⟩ = some (.int .i64 q.1) ∧ W.cell? ⟨g0, M.length * 9 + 1, none⟩ = some (.int .i64 q.2.s.id) ∧ W.cell? ⟨g0, M.length * 9 + 2, none⟩ = some (.int .i64 q.2.s.ac) ∧ W.cell? ⟨g0, M.length * 9 + 3, none⟩ = some (.int .i64 q.2.s.si) ∧ W.cell? ⟨g0, M.length * 9 + 4, none⟩ = some (.string q.2.s.plan) ∧ W.cell? ⟨g0, M.length * 9 + 5, none⟩ = some (.slice q.2.na q.2.nn q.2.nc) ∧ W.cell? ⟨g0, M.length * 9 + 6, none⟩ = some (.slice q.2.pa q.2.pn q.2.pc) ∧ W.cell? ⟨g0, M.length * 9 + 7, none⟩ = some (.bool q.2.s.su) ∧ W.cell? ⟨g0, M.length * 9 + 8, none⟩ = some (.bool q.2.s.fa)) from fun W hW => by
      have hh := HY2.out.trans (hW.mono HY2.out.size)
      exact ⟨Hyc.out ⟨W, hh⟩, Hzc.out ⟨W, hh⟩⟩)
     have HG := hZ9 (show ∀ W, Below w2.heap.size w2 W → W.ownsRow w.heap.size 112 9 (.slice (some ⟨g0, 0, none⟩) (M.length + 1) cp) (M.length + 1) ((M ++ [q]).flatMap mmCells) from fun W hW => ownsRow_below Hown2.out hW)
     clear hY2 HT1
     go_upto_region 7 with (fail)
     refine wp_region_free2 (fun W => Below w2.heap.size w2 W) (fun i v _ => v = (match i with | 0 => .slice (some ⟨g0, 0, none⟩) (M.length + 1) cp | 1 => .int .i64 ((M.length : Int) + 1) | 2 => .int .i64 (M.length : Int) | 3 => .func (.func 51) #[] #[] | 4 => .slice (some ⟨g0, 0, none⟩) (M.length + 1) cp | 5 => .int .i64 ((M.length : Int) + 1) | 6 => .int .i64 (M.length : Int) | 7 => .pointer (some ⟨g0, M.length * 9, none⟩) | 8 => mmVal q | 9 => mmVal x | 10 => mmVal q | 11 => .pointer (some ⟨g0, M.length * 9, none⟩) | _ => v)) (by kernel_rfl) (by decide) (by kernel_rfl) (Below.refl _ _).drew ?_
     generalize hfr : (fun v : Nat → Value => _) = fr
     simp only [List.map_cons, List.map_nil, putsL, List.setIfInBounds_toArray, List.set_cons_succ, List.set_cons_zero, Nat.zero_add, Nat.reduceAdd] at hfr
     simp only [FreeOps]
     refine ⟨?_, ?_, ?_, ?_, ?_, ?_, ?_, ?_, ?_, ?_, ?_, ?_, ?_⟩
     · intro v w3 hC hd K hK
       rw [← hfr] at hK ⊢
       go_simp
       exact hK _ _ hC (fun _ _ h => h) rfl
     · intro v w3 hC hd K hK
       rw [← hfr] at hK ⊢
       go_simp
       exact hK _ _ hC (fun _ _ h => h) rfl
     · intro v w3 hC hd K hK
       obtain ⟨f1, -⟩ := hd
       have e1 : v 1 = _ := f1
       obtain ⟨hj1, hj2, hj3, hj4, hj5, hj6⟩ := J.out
       rw [← hfr] at hK ⊢
       simp only [e1] at hK ⊢
       go_simp
       exact hK _ _ hC (fun _ _ h => h) rfl
     · intro v w3 hC hd K hK
       rw [← hfr] at hK ⊢
       go_simp
       exact hK _ _ hC (fun _ _ h => h) rfl
     · intro v w3 hC hd K hK
       rw [← hfr] at hK ⊢
       go_simp
       exact hK _ _ hC (fun _ _ h => h) rfl
     · intro v w3 hC hd K hK
       rw [← hfr] at hK ⊢
       go_simp
       exact hK _ _ hC (fun _ _ h => h) rfl
     · intro v w3 hC hd K hK
       obtain ⟨f5, -⟩ := hd
       have e5 : v 5 = _ := f5
       obtain ⟨hj1, hj2, hj3, hj4, hj5, hj6⟩ := J.out
       rw [← hfr] at hK ⊢
       simp only [e5] at hK ⊢
       go_simp
       exact hK _ _ hC (fun _ _ h => h) rfl
     · intro v w3 hC hd K hK
       obtain ⟨f4, f6, -⟩ := hd
       have e4 : v 4 = _ := f4
       have e6 : v 6 = _ := f6
       obtain ⟨hj1, hj2, hj3, hj4, hj5, hj6⟩ := J.out
       rw [← hfr] at hK ⊢
       simp only [e4, e6] at hK ⊢
       go_simp
       exact hK _ _ hC (fun _ _ h => h) rfl
     · intro v w3 hC hd K hK
       obtain ⟨f7, -⟩ := hd
       have e7 : v 7 = _ := f7
       obtain ⟨-, c0, c1, c2, c3, c4, c5, c6, c7, c8⟩ := HC2.out w3 hC
       rw [← hfr] at hK ⊢
       simp only [e7] at hK ⊢
       go_simp
       exact hK _ _ hC (fun _ _ h => h) rfl
     · intro v w3 hC hd K hK
       obtain ⟨⟨c0, c1, c2, c3, c4, c5, c6, c7, c8⟩, -⟩ := HC2.out w3 hC
       rw [← hfr] at hK ⊢
       go_simp
       exact hK _ _ hC (fun _ _ h => h) rfl
     · intro v w3 hC hd K hK
       obtain ⟨f3, f8, f9, -⟩ := hd
       have e3 : v 3 = _ := f3
       have e8 : v 8 = _ := f8
       have e9 : v 9 = _ := f9
       rw [← hfr] at hK ⊢
       simp only [e3, e8, e9] at hK ⊢
       go_simp
       refine (HT2.out w3 hC).mono ?_
       rintro e w4 ⟨rfl, hb4⟩
       exact hK _ _ (hC.trans (hb4.mono hC.size)) (fun _ _ h => h) rfl
     · intro v w3 hC hd K hK
       obtain ⟨f0, f2, -⟩ := hd
       have e0 : v 0 = _ := f0
       have e2 : v 2 = _ := f2
       obtain ⟨hj1, hj2, hj3, hj4, hj5, hj6⟩ := J.out
       rw [← hfr] at hK ⊢
       simp only [e0, e2] at hK ⊢
       go_simp
       exact hK _ _ hC (fun _ _ h => h) rfl
     intro v w3 hC hall
     obtain ⟨-, e10, e11⟩ : _ ∧ v 10 = _ ∧ v 11 = _ := ⟨trivial, hall.1.2, hall.2⟩
     have hownG := HG.out w3 hC
     obtain ⟨so, sg⟩ := own_setCells (mmCells q) _ (M.length * 9) _ hownG
     rw [show M.length * 9 = M.length * 9 + 0 from rfl, flat_last_set (c := mmCells) (sz := 9) (fun _ => rfl) M q q 0 (mmCells q) rfl rfl] at so
     refine wp_store_mid _ _ _ rfl g0 (M.length * 9) (mmCells q).toArray (by rw [← hfr]; exact e11) (by rw [← hfr]; exact e10) (own_there2 hownG (M.length * 9) 9 (by omega)) (by kernel_rfl) (by simp [mmCells, sbCells, Value.oneCell']) ?_
     have SO := hZ9 (show (w3.setCells g0 (M.length * 9) (mmCells q).toArray.toList).ownsRow w.heap.size 112 9 (.slice (some ⟨g0, 0, none⟩) (M.length + 1) cp) (M ++ [q]).length ((M ++ [q]).flatMap mmCells) by rw [List.length_append, List.length_singleton]; exact so)
     have SB := hZ9 (show Below w.heap.size w (w3.setCells g0 (M.length * 9) (mmCells q).toArray.toList) from ((HbY.out.trans (HY2.out.mono HbY.out.size)).trans (hC.mono (by have := HY2.out.size; have := HbY.out.size; omega))).grown sg (by have := HY2.out.size; have := HbY.out.size; have := hC.size; omega) (fun g hg => by cases hg; exact hgB))
     rw [← hfr]
     generalize (w3.setCells g0 (M.length * 9) (mmCells q).toArray.toList) = w4 at *
     clear so sg hownG
     generalize v 0 = y0, v 1 = y1, v 2 = y2, v 3 = y3, v 4 = y4, v 5 = y5, v 6 = y6, v 7 = y7, v 8 = y8, v 9 = y9, v 10 = y10, v 11 = y11
     clear hfr hall hC e10 e11
     have HE := hZ9 (jmStep_eq (plainM M) (q.1, q.2.s) (x.1, x.2.s) Htg.out)
     obtain ⟨hj1, hj2, hj3, hj4, hj5, hj6⟩ := J.out
     go_wp2
     exact ⟨⟨k + 1, M ++ [q], by omega, by go_num, hZ9 (⟨by rw [HTk.out, ← HP.out.1, plainM_snoc]; exact HE.out.symm, HP.out.2⟩), SO.out, SB.out⟩, by simp [intOf]; omega⟩
    | false =>
     rw [htg] at HT1
     have Htg := hZ9 htg
     clear htg
     refine wp_region_quiet_below hrr (by kernel_rfl) (by kernel_rfl) ?_
     repeat (go_big_quiet_step (first | (go_at_call 49; refine calls_below_of (HT1.out _ (BelowOf.h _)) (fun e w' h => h))))
     refine wpQuiet_nil ?_
     intro w2 hw2
     have hY2 : Below Y.heap.size Y w2 := by obtain ⟨pq, rfl⟩ := hw2; exact pq.h
     clear hw2 y0 u0 y1 u1 y2 u2 y3 u3 y4 u4 y5 u5 y6 u6 y7 u7 y8 u8 hrr hj1 hj2 hj3 hj4 hj5 hj6
     have HbA := hZ9 (HbY.out.trans (hY2.mono HbY.out.size))
     have HownA := hZ9 (ownsRow_below HownL.out hY2)
     have rA := (hY2.block _ hwY).trans HYr.out
     have c0 : w2.cell? ⟨wo.heap.size, 0, none⟩ = some (.int .i64 x.1) := cell_of_row w2 _ 0 _ _ _ rA
     have c1 : w2.cell? ⟨wo.heap.size, 1, none⟩ = some (.int .i64 x.2.s.id) := cell_of_row w2 _ 1 _ _ _ rA
     have c2 : w2.cell? ⟨wo.heap.size, 2, none⟩ = some (.int .i64 x.2.s.ac) := cell_of_row w2 _ 2 _ _ _ rA
     have c3 : w2.cell? ⟨wo.heap.size, 3, none⟩ = some (.int .i64 x.2.s.si) := cell_of_row w2 _ 3 _ _ _ rA
     have c4 : w2.cell? ⟨wo.heap.size, 4, none⟩ = some (.string x.2.s.plan) := cell_of_row w2 _ 4 _ _ _ rA
     have c5 : w2.cell? ⟨wo.heap.size, 5, none⟩ = some (.slice x.2.na x.2.nn x.2.nc) := cell_of_row w2 _ 5 _ _ _ rA
     have c6 : w2.cell? ⟨wo.heap.size, 6, none⟩ = some (.slice x.2.pa x.2.pn x.2.pc) := cell_of_row w2 _ 6 _ _ _ rA
     have c7 : w2.cell? ⟨wo.heap.size, 7, none⟩ = some (.bool x.2.s.su) := cell_of_row w2 _ 7 _ _ _ rA
     have c8 : w2.cell? ⟨wo.heap.size, 8, none⟩ = some (.bool x.2.s.fa) := cell_of_row w2 _ 8 _ _ _ rA
     have hbs := HbA.out.size
     have HX := hZ9 (RecAt.one (c := mmCells) (sz := 9) w2 x 112 #[.int .i64 x.1, .int .i64 x.2.s.id, .int .i64 x.2.s.ac, .int .i64 x.2.s.si, .string x.2.s.plan, .slice x.2.na x.2.nn x.2.nc, .slice x.2.pa x.2.pn x.2.pc, .bool x.2.s.su, .bool x.2.s.fa] rfl)
     clear rA hY2
     go_upto_region 8 with (fail)
     go_wp2_with (at_builtin; refine append_rec2 (c := mmCells) (sz := 9) (fun _ => rfl) mm_one 112 107 _ 104 Try.underlying107 Try.momInfo rfl (by decide) rfl _ _ rfl w.heap.size ?hs _ _ (M ++ [q]) [x] rfl rfl (HownA.out.alloc _) HX.out ?hl ?hb ?_)
     case hs => simp <;> omega
     case hl => unfold maxLen; simp <;> omega
     case hb => simp <;> omega
     intro R hR v5 w5 own5 hg5
     have HRe := hZ9 (show R = (M ++ [q]) ++ [x] by rw [hR.out]; first | rfl | simp)
     have Own5 := hZ9 own5
     have Hb5 := hZ9 ((HbA.out.alloc hbs _).grown hg5 (by simp <;> omega) (fun g hg => (ownsRow_block HownA.out g hg).1))
     clear own5 hg5 hR hbs
     go_wp2
     exact ⟨⟨k + 1, R, by omega, by go_num, hZ9 (⟨by rw [HRe.out, HTk.out, ← HP.out.1, plainM_snoc, plainM_snoc]; exact (jmStep_ne (plainM M) (q.1, q.2.s) (x.1, x.2.s) Htg.out).symm, fun p hp => by
      rw [HRe.out] at hp
      rcases List.mem_append.1 hp with hp | hp
      · first | exact HP.out.2 p hp | cases hp
      rw [List.mem_singleton.1 hp]; exact HMem.out⟩), Own5.out, Hb5.out⟩, by simp [intOf]; omega⟩
  have HE := hZ9 (show jmL ((plainM L).take k) = jmL (plainM L) by rw [List.take_of_length_le (by rw [plainM_len]; omega)])
  go_wp2
  go_ret
  exact ⟨a, cp, O, rfl, Hown.out, HP.out.1.trans HE.out, HP.out.2, Hb.out⟩
def spCells (p : Int × Int × SbX) : List Value := [.int .i64 p.1, .int .i64 p.2.1, .string p.2.2.s.plan, .slice p.2.2.pa p.2.2.pn p.2.2.pc, .bool p.2.2.s.su, .bool p.2.2.s.fa]
def spVal (p : Int × Int × SbX) : Value := .agg (spCells p).toArray
def plainSp (S : List (Int × Int × SbX)) : List Sp := S.map fun p => ⟨p.1, p.2.1, p.2.2.s⟩
theorem plainSp_len (S : List (Int × Int × SbX)) : (plainSp S).length = S.length := List.length_map _
theorem plainSp_snoc (S : List (Int × Int × SbX)) (p : Int × Int × SbX) : plainSp (S ++ [p]) = plainSp S ++ [⟨p.1, p.2.1, p.2.2.s⟩] := by unfold plainSp; rw [List.map_append]; rfl
theorem sp_one (p : Int × Int × SbX) : ∀ u ∈ spCells p, u.oneCell' = true := by
 intro u hu
 unfold spCells at hu
 simp only [List.mem_cons, List.not_mem_nil, or_false] at hu
 rcases hu with rfl | rfl | rfl | rfl | rfl | rfl <;> rfl
theorem Try.spellInfo : (Try.prog.info? 82).map (fun i => (i.zero, i.size, i.bytes)) = some (some (.agg #[.int .i64 0, .int .i64 0, .string ⟨#[]⟩, .slice none 0 0, .bool false, .bool false]), 6, 64) := by kernel_rfl
def SpsOk (base : Nat) (w : World) (S : List (Int × Int × SbX)) : Prop := ∀ p ∈ S, SbO base w p.2.2
theorem SpsOk.below {base : Nat} {w w' : World} {S : List (Int × Int × SbX)} (h : SpsOk base w S) (hb : Below w.heap.size w w') : SpsOk base w' S := fun p hp => (h p hp).below hb
theorem SbO.growT {base base' : Nat} {w w' : World} {x : SbX} (h : SbO base w x) {v : Value} {e : TypeId} {sz n : Nat} {xs : List Value} (ho : w.ownsRow base' e sz v n xs) (he : e ≠ 9) (hg : w.grownBy w' v.ownBlock) : SbO base w' x :=
 ⟨own_grow h.row hg (own_other2 h.row ho he), h.na, h.nn, h.nc, h.nus, h.plan, h.sizes⟩
theorem SbO.down {b b' : Nat} {w : World} {x : SbX} (h : SbO b w x) (hb : b' ≤ b) : SbO b' w x := ⟨own_down h.row hb, h.na, h.nn, h.nc, h.nus, h.plan, h.sizes⟩
def SpsTo (N : List Sp) (w : World) (e : Ending) (w' : World) : Prop := ∃ (a : Option Addr) (c : Nat) (S : List (Int × Int × SbX)), e = .returned (.slice a S.length c) ∧ w'.ownsRow w.heap.size 82 6 (.slice a S.length c) S.length (S.flatMap spCells) ∧ plainSp S = N ∧ SpsOk w.heap.size w' S ∧ Below w.heap.size w w'
theorem rec_block {α : Type} {c : α → List Value} {sz : Nat} {w : World} {g : Nat} {cs : Array Value} {t : TypeId} {fr : Nat × Nat} (hg : w.heap[g]? = some (.cells cs t fr)) (x : α) (h : cs = (c x).toArray) : RecAt c sz w (.slice (some ⟨g, 0, none⟩) 1 1) [x] := by
 subst h
 refine ⟨_, 1, rfl, Nat.le_refl _, ⟨by decide, fun h => by cases h⟩, fun _ => ⟨g, 0, rfl, (ltB9 hg), fun i hi => ?_⟩⟩
 obtain rfl : i = 0 := by simpa using hi
 intro j hj
 rw [cell_of_row _ _ _ _ _ _ hg]
 simp
def spPhi (Y : World) (gx : Nat) (a : Option Addr) (n cp : Nat) (nx : Int) (x : Int × SbX) : Nat → Value → World → Prop
 | 0, v, _ => v = .slice a n cp
 | 1, v, _ => v = .agg #[.int .i64 x.1, .int .i64 nx]
 | 2, v, _ => v = .pointer (some ⟨gx, 1, none⟩)
 | 3, v, _ => v = .pointer (some ⟨gx, 4, none⟩)
 | 4, v, _ => v = .string x.2.s.plan
 | 5, v, _ => v = .pointer (some ⟨gx, 1, none⟩)
 | 6, v, _ => v = .pointer (some ⟨gx, 6, none⟩)
 | 7, v, _ => v = .slice x.2.pa x.2.pn x.2.pc
 | 8, v, w => ∃ (pa : Option Addr) (pn pc : Nat), v = .slice pa pn pc ∧ w.ownsRow Y.heap.size 9 1 (.slice pa pn pc) x.2.s.prs.length (x.2.s.prs.flatMap strCells)
 | 9, v, _ => v = .pointer (some ⟨gx, 1, none⟩)
 | 10, v, _ => v = .pointer (some ⟨gx, 7, none⟩)
 | 11, v, _ => v = .bool x.2.s.su
 | 12, v, _ => v = .pointer (some ⟨gx, 1, none⟩)
 | 13, v, _ => v = .pointer (some ⟨gx, 8, none⟩)
 | 14, v, _ => v = .bool x.2.s.fa
 | 15, v, w => ∃ (pa : Option Addr) (pn pc : Nat), v = .agg #[.int .i64 x.1, .int .i64 nx, .string x.2.s.plan, .slice pa pn pc, .bool x.2.s.su, .bool x.2.s.fa] ∧ w.ownsRow Y.heap.size 9 1 (.slice pa pn pc) x.2.s.prs.length (x.2.s.prs.flatMap strCells)
 | 16, v, w => ∃ (g : Nat) (pa : Option Addr) (pn pc : Nat), v = .slice (some ⟨g, 0, none⟩) 1 1 ∧ w.heap[g]? = some (.cells #[.int .i64 x.1, .int .i64 nx, .string x.2.s.plan, .slice pa pn pc, .bool x.2.s.su, .bool x.2.s.fa] 82) ∧ w.ownsRow Y.heap.size 9 1 (.slice pa pn pc) x.2.s.prs.length (x.2.s.prs.flatMap strCells)
 | _ + 17, _, _ => True
theorem spPhi_stays {Y : World} {gx : Nat} {a : Option Addr} {n cp : Nat} {nx : Int} {x : Int × SbX} {w1 w2 : World} (hb : Below w1.heap.size w1 w2) : ∀ j y, spPhi Y gx a n cp nx x j y w1 → spPhi Y gx a n cp nx x j y w2
 | 0, _, h => h
 | 1, _, h => h
 | 2, _, h => h
 | 3, _, h => h
 | 4, _, h => h
 | 5, _, h => h
 | 6, _, h => h
 | 7, _, h => h
 | 9, _, h => h
 | 10, _, h => h
 | 11, _, h => h
 | 12, _, h => h
 | 13, _, h => h
 | 14, _, h => h
 | 8, _, ⟨pa, pn, pc, h1, h2⟩ => ⟨pa, pn, pc, h1, ownsRow_below h2 hb⟩
 | 15, _, ⟨pa, pn, pc, h1, h2⟩ => ⟨pa, pn, pc, h1, ownsRow_below h2 hb⟩
 | 16, _, ⟨g, pa, pn, pc, h1, h2, h3⟩ => ⟨g, pa, pn, pc, h1, (hb.block _ (ltB9 h2)).trans h2, ownsRow_below h3 hb⟩
 | _ + 17, _, _ => trivial
theorem plainM_get (X : List (Int × SbX)) (k : Nat) (h : k < X.length) : (plainM X)[k]'(by rw [plainM_len]; exact h) = ((X[k]).1, (X[k]).2.s) := List.getElem_map _
theorem momF_prs (n : Int) (l : List Ev) : ∀ k, k ≤ l.length → ∀ q ∈ (momF n (l.take k)).1, q.2.prs.length ≤ k
 | 0, _ => fun q hq => by rw [List.take_zero] at hq; cases hq
 | k + 1, hk => by
  have ih := momF_prs n l k (by omega)
  have h2 := prs_len n l (k + 1) hk
  rw [momF_take n l k (by omega)] at h2 ⊢
  generalize l[k]'(by omega) = e at h2 ⊢
  unfold momStep at h2 ⊢
  split
  · intro q hq; have := ih q hq; omega
  rename_i hc
  rw [if_neg hc] at h2
  dsimp only at h2 ⊢
  intro q hq
  unfold putM at hq
  split at hq
  · split at hq
    · rcases List.mem_append.1 hq with hq | hq
      · have := ih q ((List.dropLast_sublist _).mem hq); omega
      rw [List.mem_singleton.1 hq]; exact h2
    rcases List.mem_append.1 hq with hq | hq
    · have := ih q hq; omega
    rw [List.mem_singleton.1 hq]; exact h2
  rw [List.mem_singleton.1 hq]; exact h2
theorem jmL_mem (M : List (Int × Sb)) : ∀ k, k ≤ M.length → ∀ q ∈ jmL (M.take k), q ∈ M
 | 0, _ => fun q hq => by rw [List.take_zero] at hq; cases hq
 | k + 1, hk => by
  have ih := jmL_mem M k (by omega)
  rw [jmL_take M k (by omega)]
  intro q hq
  unfold jmStep at hq
  split at hq
  · split at hq
    · exact ih q hq
    rcases List.mem_append.1 hq with hq | hq
    · exact ih q hq
    rw [List.mem_singleton.1 hq]; exact List.getElem_mem _
  rw [List.mem_singleton.1 hq]; exact List.getElem_mem _
theorem spells_calls (v : Value) (l : List Ev) (n : Int) (w : World) (h : EvsAt w v l) (hl : l.length ≤ 1000) :
 Calls Try.prog 38 #[v, .int .i64 n] w (SpsTo (spellsL n l) w) := by
 have HMo := hZ9 (moments_calls v l n w h hl)
 have HMl := hZ9 (momF_len n l l.length (Nat.le_refl _))
 rw [List.take_of_length_le (Nat.le_refl _)] at HMl
 obtain ⟨av, cap, rfl, hcl, hcm⟩ := rec_shape h.1
 clear h hcl hcm
 go_enter Try.func38, Try.ntmps38
 go_wp2_with fail
 refine HMo.out.mono ?_
 rintro e w1 ⟨a1, c1, X1, rfl, own1, hp1, hok1, hb1⟩
 have hX1 : X1.length ≤ 1000 := by
  have h := HMl.out
  rw [← hp1, plainM_len] at h; omega
 have HJo := hZ9 (joinedM_calls w.heap.size (.slice a1 X1.length c1) X1 w1 (RecAt.own (fun _ => rfl) own1) (by omega) hok1)
 have Hp1 := hZ9 hp1
 have Hok1 := hZ9 hok1
 have Hb1 := hZ9 hb1
 clear own1 hp1 hok1 hb1 HMo HMl
 go_wp2_with fail
 refine HJo.out.mono ?_
 rintro e w2 ⟨a2, c2, X, rfl, own2, hp2, hmem, hb2⟩
 have HpX := hZ9 (show plainM X = jmL (momF n l).1 by rw [hp2, Hp1.out])
 have HokX := hZ9 (show MmsOk w.heap.size w2 X from fun p hp => ((Hok1.out p (hmem p hp)).below hb2))
 have HX := hZ9 (show RecAt mmCells 9 w2 (.slice a2 X.length c2) X from RecAt.own (fun _ => rfl) own2)
 have HbX := hZ9 (Hb1.out.trans (hb2.mono Hb1.out.size))
 have hXl : X.length ≤ 1000 := by
  have h1 := jmL_len (plainM X1) _ (Nat.le_refl _)
  rw [List.take_of_length_le (Nat.le_refl _), ← hp2, plainM_len, plainM_len] at h1; omega
 obtain ⟨ax, cx, ecx, hcx1, hcx2⟩ := own_shape own2
 cases ecx
 unfold maxLen at hcx2
 clear own2 hp2 hmem hb2 Hp1 Hok1 Hb1 HJo hX1
 go_wp2_with fail
 go_loopw [6, 16] (fun vo i wr => ∃ (k : Nat) (S : List (Int × Int × SbX)), k ≤ X.length ∧ i = .int .i64 k ∧ RowKit.Hid (plainSp S = spUpto (plainM X) k) ∧ wr.ownsRow w2.heap.size 82 6 vo S.length (S.flatMap spCells) ∧ SpsOk w2.heap.size wr S ∧ Below w2.heap.size w2 wr) (fun _ i _ => X.length - (intOf i).toNat)
 case atStart => exact ⟨0, [], Nat.zero_le _, rfl, hZ9 rfl, World.ownsRow_nil _ _ _ _, (fun p hp => by cases hp), Below.refl _ _⟩
 case round =>
  obtain ⟨wo, rfl⟩ : ∃ wo : World, wo = wr := ⟨_, rfl⟩
  obtain ⟨k, S, hk, rfl, HP, hown, hok, hb⟩ := hrel
  obtain ⟨a, cp, rfl, hc1, hc2⟩ := own_shape hown
  unfold maxLen at hc2
  have Hown := hZ9 hown
  have Hok := hZ9 hok
  have Hb := hZ9 hb
  have hSl : S.length ≤ 1000 := by
   have h := spUpto_len (plainM X) k
   rw [← HP.out, plainSp_len] at h; omega
  by_cases hlt : k < X.length
  · have hk1 : (k : Int) < (X.length : Int) := by omega
    have hk0 : (0 : Int) ≤ (k : Int) := Int.natCast_nonneg _
    have hlp : k < (plainM X).length := by rw [plainM_len]; exact hlt
    have HSu := hZ9 (show spUpto (plainM X) (k + 1) = spUpto (plainM X) k ++ (if (X[k]).2.s.id = 0 then [] else [⟨(X[k]).1, nextAt (plainM X) k, (X[k]).2.s⟩]) by
     rw [spUpto_succ, spOne_at hlp, plainM_get X k hlt])
    have HPb := hZ9 (show (X[k]).2.s.prs.length ≤ 1000 by
     have h1 : (plainM X)[k]'hlp ∈ jmL (momF n l).1 := by rw [← HpX.out]; exact List.getElem_mem _
     have h2 := jmL_mem (momF n l).1 _ (Nat.le_refl _)
     rw [List.take_of_length_le (Nat.le_refl _)] at h2
     have h3 := momF_prs n l l.length (Nat.le_refl _)
     rw [List.take_of_length_le (Nat.le_refl _)] at h3
     have h4 := h3 _ (h2 _ h1)
     rw [plainM_get X k hlt] at h4
     dsimp only at h4
     omega)
    have HSo := hZ9 ((HokX.out _ (List.getElem_mem hlt)).below hb)
    have HXw := hZ9 (HX.out.below hb)
    obtain ⟨a3, c3, e3, -, -, hx⟩ := HXw.out
    cases e3
    obtain ⟨bb, o, rfl, hB, hx⟩ := hx (by rintro rfl; cases hlt)
    have HNx := hZ9 (show ∀ h : k + 1 < X.length, nextAt (plainM X) k = (X[k + 1]).1 ∧ wo.cell? ⟨bb, o + (k + 1) * 9, none⟩ = some (.int .i64 (X[k + 1]).1) from fun h => by
     refine ⟨?_, hx (k + 1) h 0 (by decide)⟩
     rw [nextAt_lt (by rw [plainM_len]; exact h), plainM_get X (k + 1) h])
    have HNe := hZ9 (show ¬ k + 1 < X.length → nextAt (plainM X) k = 12622780800 from fun h => nextAt_end (by rw [plainM_len]; omega))
    have hx := hx k hlt
    have x0 : wo.cell? ⟨bb, o + k * 9, none⟩ = some (.int .i64 (X[k]).1) := hx 0 (by decide)
    have x1 : wo.cell? ⟨bb, o + k * 9 + 1, none⟩ = some (.int .i64 (X[k]).2.s.id) := hx 1 (by decide)
    have x2 : wo.cell? ⟨bb, o + k * 9 + 2, none⟩ = some (.int .i64 (X[k]).2.s.ac) := hx 2 (by decide)
    have x3 : wo.cell? ⟨bb, o + k * 9 + 3, none⟩ = some (.int .i64 (X[k]).2.s.si) := hx 3 (by decide)
    have x4 : wo.cell? ⟨bb, o + k * 9 + 4, none⟩ = some (.string (X[k]).2.s.plan) := hx 4 (by decide)
    have x5 : wo.cell? ⟨bb, o + k * 9 + 5, none⟩ = some (.slice (X[k]).2.na (X[k]).2.nn (X[k]).2.nc) := hx 5 (by decide)
    have x6 : wo.cell? ⟨bb, o + k * 9 + 6, none⟩ = some (.slice (X[k]).2.pa (X[k]).2.pn (X[k]).2.pc) := hx 6 (by decide)
    have x7 : wo.cell? ⟨bb, o + k * 9 + 7, none⟩ = some (.bool (X[k]).2.s.su) := hx 7 (by decide)
    have x8 : wo.cell? ⟨bb, o + k * 9 + 8, none⟩ = some (.bool (X[k]).2.s.fa) := hx 8 (by decide)
    clear hx hown hok hb hlp
    generalize X[k] = x at *
    obtain ⟨nx, hnx⟩ : ∃ nx, nx = nextAt (plainM X) k := ⟨_, rfl⟩
    rw [← hnx] at HSu HNx HNe
    clear hnx
    obtain ⟨Y, hY⟩ : ∃ Y, Y = wo.alloc (Obj.cells #[.int .i64 x.1, .int .i64 x.2.s.id, .int .i64 x.2.s.ac, .int .i64 x.2.s.si, .string x.2.s.plan, .slice x.2.na x.2.nn x.2.nc, .slice x.2.pa x.2.pn x.2.pc, .bool x.2.s.su, .bool x.2.s.fa] 112) := ⟨_, rfl⟩
    have hbY : Below wo.heap.size wo Y := by rw [hY]; go_grown
    have HYr := hZ9 (show Y.heap[wo.heap.size]? = some (Obj.cells #[.int .i64 x.1, .int .i64 x.2.s.id, .int .i64 x.2.s.ac, .int .i64 x.2.s.si, .string x.2.s.plan, .slice x.2.na x.2.nn x.2.nc, .slice x.2.pa x.2.pn x.2.pc, .bool x.2.s.su, .bool x.2.s.fa] 112) by rw [hY]; exact heap_alloc_new _ _)
    have HbYo := hZ9 hbY
    have HbY := hZ9 (Hb.out.trans (hbY.mono Hb.out.size))
    have hwY : wo.heap.size < Y.heap.size := (ltB9 HYr.out)
    have hBY : bb < Y.heap.size := by omega
    have HY := hZ9 hY
    clear hbY hY
    have y1 : Y.cell? ⟨wo.heap.size, 1, none⟩ = some (.int .i64 x.2.s.id) := cell_of_row Y _ 1 _ _ _ HYr.out
    by_cases hid : x.2.s.id = 0
    · have hi1 : (x.2.s.id == 0) = true := by simp [hid]
      have HE := hZ9 (show spUpto (plainM X) (k + 1) = spUpto (plainM X) k by rw [HSu.out, if_pos hid, List.append_nil])
      have HownY := hZ9 (ownsRow_below Hown.out HbYo.out)
      have HokY := hZ9 (Hok.out.below HbYo.out)
      clear hid
      go_upto_region 6 with (fail)
      rw [← HY.out]
      go_wp2
      exact ⟨⟨k + 1, S, by omega, by go_num, hZ9 (HP.out.trans HE.out.symm), HownY.out, HokY.out, HbY.out⟩, by simp [intOf]; omega⟩
    have hi1 : (x.2.s.id == 0) = false := by simp [hid]
    have HE := hZ9 (show spUpto (plainM X) (k + 1) = spUpto (plainM X) k ++ [⟨x.1, nx, x.2.s⟩] by rw [HSu.out, if_neg hid])
    have Hid := hZ9 hid
    clear hid HSu
    have y0 : Y.cell? ⟨wo.heap.size, 0, none⟩ = some (.int .i64 x.1) := cell_of_row Y _ 0 _ _ _ HYr.out
    go_upto_region 6 with (fail)
    rw [← HY.out]
    by_cases hk2 : k + 1 < X.length
    · obtain ⟨hn1, hn2⟩ := HNx.out hk2
      have hk3 : (k : Int) + 1 < (X.length : Int) := by omega
      have nxc : (Y.alloc (Obj.cells #[.int .i64 x.1, .int .i64 12622780800] 24)).cell? ⟨bb, o + (k + 1) * 9, none⟩ = some (.int .i64 nx) := by
       rw [hn1, ← hn2]
       exact (((Below.refl _ Y).alloc (Nat.le_refl _) _).cell (p := ⟨bb, o + (k + 1) * 9, none⟩) hBY).trans (HbYo.out.cell (p := ⟨bb, o + (k + 1) * 9, none⟩) hB)
      have Hn1 := hZ9 hn1
      clear hn1 hn2
      obtain ⟨Y3, hY3⟩ : ∃ Y3, Y3 = (Y.alloc (Obj.cells #[.int .i64 x.1, .int .i64 nx] 24)) := ⟨_, rfl⟩
      have r3 : Y3.heap[Y.heap.size]? = some (Obj.cells #[.int .i64 x.1, .int .i64 nx] 24) := by rw [hY3]; exact heap_alloc_new _ _
      have hbYY : Below Y.heap.size Y Y3 := by rw [hY3]; exact (Below.refl _ _).alloc (Nat.le_refl _) _
      have HR3 := hZ9 r3
      have HbYY := hZ9 hbYY
      have HY3 := hZ9 hY3
      clear hY3 r3 hbYY
      go_upto_region 10 with (fail)
      clear y0 y1
      rw [← HY3.out]
      have Hb3 := hZ9 (HbY.out.trans (HbYY.out.mono HbY.out.size))
      have HbO3 := hZ9 (HbYo.out.trans (HbYY.out.mono HbYo.out.size))
      have HX3 := hZ9 ((HbYY.out.block _ hwY).trans HYr.out)
      have HSo3 := hZ9 (HSo.out.below HbO3.out)
      have h3z : Y.heap.size < Y3.heap.size := (ltB9 HR3.out)
      have Hpl := hZ9 (HSo.out.row.1)
      have HCx := hZ9 (show ∀ W, Below Y3.heap.size Y3 W → W.cell? ⟨wo.heap.size, 4, none⟩ = some (.string x.2.s.plan) ∧ W.cell? ⟨wo.heap.size, 6, none⟩ = some (.slice x.2.pa x.2.pn x.2.pc) ∧ W.cell? ⟨wo.heap.size, 7, none⟩ = some (.bool x.2.s.su) ∧ W.cell? ⟨wo.heap.size, 8, none⟩ = some (.bool x.2.s.fa) from fun W hW => by
       have q := (hW.block _ (by omega)).trans HX3.out
       exact ⟨cell_of_row W _ 4 _ _ _ q, cell_of_row W _ 6 _ _ _ q, cell_of_row W _ 7 _ _ _ q, cell_of_row W _ 8 _ _ _ q⟩)
      have HCp := hZ9 (show ∀ W, Below Y3.heap.size Y3 W → W.cell? ⟨Y.heap.size, 0, none⟩ = some (.int .i64 x.1) ∧ W.cell? ⟨Y.heap.size, 1, none⟩ = some (.int .i64 nx) from fun W hW => by
       have q := (hW.block _ h3z).trans HR3.out
       exact ⟨cell_of_row W _ 0 _ _ _ q, cell_of_row W _ 1 _ _ _ q⟩)
      refine wp_region_free3 17 (fun W => Below Y3.heap.size Y3 W) (spPhi Y3 wo.heap.size a S.length cp nx x) (by kernel_rfl) (by kernel_rfl) (Below.refl _ _).drew ?_ ?_
      · generalize hfr : (fun v : Nat → Value => _) = fr
        simp only [List.take_succ_cons, List.take_zero, List.map_cons, List.map_nil, putsL, List.setIfInBounds_toArray, List.set_cons_succ, List.set_cons_zero, Nat.zero_add, Nat.reduceAdd] at hfr
        simp only [List.take_succ_cons, List.take_zero, FreeHead]
        refine ⟨?_, ?_, ?_, ?_, ?_, ?_, ?_, ?_, ?_, ?_, ?_, ?_, ?_, ?_, ?_, ?_, ?_, trivial⟩
        · intro v w3 hC hd K hK
          rw [← hfr] at hK ⊢
          go_simp
          exact hK _ _ hC (spPhi_stays (Below.refl _ _)) rfl
        · intro v w3 hC hd K hK
          obtain ⟨p0, p1⟩ := HCp.out w3 hC
          rw [← hfr] at hK ⊢
          go_simp
          exact hK _ _ hC (spPhi_stays (Below.refl _ _)) rfl
        · intro v w3 hC hd K hK
          rw [← hfr] at hK ⊢
          go_simp
          exact hK _ _ hC (spPhi_stays (Below.refl _ _)) rfl
        · intro v w3 hC hd K hK
          obtain ⟨f2, -⟩ := hd
          have e2 : v 2 = _ := f2
          rw [← hfr] at hK ⊢
          simp only [e2] at hK ⊢
          go_simp
          exact hK _ _ hC (spPhi_stays (Below.refl _ _)) rfl
        · intro v w3 hC hd K hK
          obtain ⟨f3, -⟩ := hd
          have e3 : v 3 = _ := f3
          obtain ⟨k4, k6, k7, k8⟩ := HCx.out w3 hC
          rw [← hfr] at hK ⊢
          simp only [e3] at hK ⊢
          go_simp
          exact hK _ _ hC (spPhi_stays (Below.refl _ _)) rfl
        · intro v w3 hC hd K hK
          rw [← hfr] at hK ⊢
          go_simp
          exact hK _ _ hC (spPhi_stays (Below.refl _ _)) rfl
        · intro v w3 hC hd K hK
          obtain ⟨f5, -⟩ := hd
          have e5 : v 5 = _ := f5
          rw [← hfr] at hK ⊢
          simp only [e5] at hK ⊢
          go_simp
          exact hK _ _ hC (spPhi_stays (Below.refl _ _)) rfl
        · intro v w3 hC hd K hK
          obtain ⟨f6, -⟩ := hd
          have e6 : v 6 = _ := f6
          obtain ⟨k4, k6, k7, k8⟩ := HCx.out w3 hC
          rw [← hfr] at hK ⊢
          simp only [e6] at hK ⊢
          go_simp
          exact hK _ _ hC (spPhi_stays (Below.refl _ _)) rfl
        · intro v w3 hC hd K hK
          obtain ⟨f7, -⟩ := hd
          have e7 : v 7 = _ := f7
          have hXs := rec_of_strs (HSo3.out.below hC).strs
          have hpl2 : x.2.s.prs.length ≤ 140737488355328 / 16 := by have := HPb.out; omega
          refine wp_append_copy (c := strCells) (sz := 1) (fun _ => rfl) str_one 9 22 _ 16 Try.underlying22 Try.strInfo rfl (by decide) rfl _ _ rfl Y3.heap.size hC.size none _ x.2.s.prs rfl (by rw [← hfr]; exact e7) (World.ownsRow_nil _ _ _ _) hXs (by unfold maxLen; omega) (by omega) (fun v' w' h1 h2 => ?_)
          obtain ⟨pa, pc, rfl, -, -⟩ := own_shape h1
          exact hK _ _ (hC.trans (h2.mono hC.size)) (spPhi_stays h2) ⟨pa, _, pc, rfl, h1⟩
        · intro v w3 hC hd K hK
          rw [← hfr] at hK ⊢
          go_simp
          exact hK _ _ hC (spPhi_stays (Below.refl _ _)) rfl
        · intro v w3 hC hd K hK
          obtain ⟨f9, -⟩ := hd
          have e9 : v 9 = _ := f9
          rw [← hfr] at hK ⊢
          simp only [e9] at hK ⊢
          go_simp
          exact hK _ _ hC (spPhi_stays (Below.refl _ _)) rfl
        · intro v w3 hC hd K hK
          obtain ⟨f10, -⟩ := hd
          have e10 : v 10 = _ := f10
          obtain ⟨k4, k6, k7, k8⟩ := HCx.out w3 hC
          rw [← hfr] at hK ⊢
          simp only [e10] at hK ⊢
          go_simp
          exact hK _ _ hC (spPhi_stays (Below.refl _ _)) rfl
        · intro v w3 hC hd K hK
          rw [← hfr] at hK ⊢
          go_simp
          exact hK _ _ hC (spPhi_stays (Below.refl _ _)) rfl
        · intro v w3 hC hd K hK
          obtain ⟨f12, -⟩ := hd
          have e12 : v 12 = _ := f12
          rw [← hfr] at hK ⊢
          simp only [e12] at hK ⊢
          go_simp
          exact hK _ _ hC (spPhi_stays (Below.refl _ _)) rfl
        · intro v w3 hC hd K hK
          obtain ⟨f13, -⟩ := hd
          have e13 : v 13 = _ := f13
          obtain ⟨k4, k6, k7, k8⟩ := HCx.out w3 hC
          rw [← hfr] at hK ⊢
          simp only [e13] at hK ⊢
          go_simp
          exact hK _ _ hC (spPhi_stays (Below.refl _ _)) rfl
        · intro v w3 hC hd K hK
          obtain ⟨f1, f4, f8, f11, f14, -⟩ := hd
          have e1 : v 1 = _ := f1
          have e4 : v 4 = _ := f4
          obtain ⟨pa, pn, pc, e8, ho⟩ : ∃ (pa : Option Addr) (pn pc : Nat), v 8 = .slice pa pn pc ∧ w3.ownsRow Y3.heap.size 9 1 (.slice pa pn pc) x.2.s.prs.length (x.2.s.prs.flatMap strCells) := f8
          have e11 : v 11 = _ := f11
          have e14 : v 14 = _ := f14
          have Ho := hZ9 ho
          clear ho
          rw [← hfr] at hK ⊢
          simp only [e1, e4, e8, e11, e14] at hK ⊢
          go_simp
          exact hK _ _ hC (spPhi_stays (Below.refl _ _)) ⟨pa, pn, pc, rfl, Ho.out⟩
        intro v w3 hC hd K hK
        obtain ⟨f15, -⟩ := hd
        obtain ⟨pa, pn, pc, e15, ho⟩ : ∃ (pa : Option Addr) (pn pc : Nat), v 15 = .agg #[.int .i64 x.1, .int .i64 nx, .string x.2.s.plan, .slice pa pn pc, .bool x.2.s.su, .bool x.2.s.fa] ∧ w3.ownsRow Y3.heap.size 9 1 (.slice pa pn pc) x.2.s.prs.length (x.2.s.prs.flatMap strCells) := f15
        have Ho := hZ9 ho
        clear ho
        rw [← hfr] at hK ⊢
        simp only [e15] at hK ⊢
        go_simp
        exact hK _ _ (hC.alloc hC.size _) (spPhi_stays ((Below.refl _ _).alloc (Nat.le_refl _) _)) ⟨_, pa, pn, pc, rfl, heap_alloc_new _ _, ownsRow_below Ho.out ((Below.refl _ _).alloc (Nat.le_refl _) _)⟩
      intro v w3 hC hall
      obtain ⟨g, pa, pn, pc, e16, hg, ho⟩ : ∃ (g : Nat) (pa : Option Addr) (pn pc : Nat), v 16 = .slice (some ⟨g, 0, none⟩) 1 1 ∧ w3.heap[g]? = some (.cells #[.int .i64 x.1, .int .i64 nx, .string x.2.s.plan, .slice pa pn pc, .bool x.2.s.su, .bool x.2.s.fa] 82) ∧ w3.ownsRow Y3.heap.size 9 1 (.slice pa pn pc) x.2.s.prs.length (x.2.s.prs.flatMap strCells) := hall.2
      have e0 : v 0 = .slice a S.length cp := hall.1.1.1.1.1.1.1.1.1.1.1.1.1.1.1.1.2
      have HownW := hZ9 (ownsRow_below Hown.out (HbO3.out.trans (hC.mono HbO3.out.size)))
      have HokW := hZ9 (Hok.out.below (HbO3.out.trans (hC.mono HbO3.out.size)))
      have HbW := hZ9 (Hb3.out.trans (hC.mono Hb3.out.size))
      have hbs := HbW.out.size
      have hb3s := Hb3.out.size
      have HXE := hZ9 (rec_block (c := spCells) (sz := 6) hg (x.1, nx, ⟨x.2.s, none, 0, 0, pa, pn, pc⟩) rfl)
      have HSn := hZ9 (show SbO w2.heap.size w3 ⟨x.2.s, none, 0, 0, pa, pn, pc⟩ from ⟨own_down ho hb3s, rfl, rfl, rfl, HSo.out.nus, HSo.out.plan, HSo.out.sizes⟩)
      simp only [List.take_succ_cons, List.take_zero, List.map_cons, List.map_nil, putsL, List.setIfInBounds_toArray, List.set_cons_succ, List.set_cons_zero, Nat.zero_add, Nat.reduceAdd, List.drop_succ_cons, List.drop_zero]
      simp only [e0, e16]
      clear hg ho hC hall
      generalize v 1 = u1, v 2 = u2, v 3 = u3, v 4 = u4, v 5 = u5, v 6 = u6, v 7 = u7, v 8 = u8, v 9 = u9, v 10 = u10, v 11 = u11, v 12 = u12, v 13 = u13, v 14 = u14, v 15 = u15
      clear e0 e16
      go_wp2_with (at_builtin; refine append_rec2 (c := spCells) (sz := 6) (fun _ => rfl) sp_one 82 92 _ 64 Try.underlying92 Try.spellInfo rfl (by decide) rfl _ _ rfl w2.heap.size hbs _ _ S [(x.1, nx, ⟨x.2.s, none, 0, 0, pa, pn, pc⟩)] rfl rfl HownW.out HXE.out ?hl1 ?hb1 ?_)
      case hl1 => unfold maxLen; (try simp); omega
      case hb1 => (try simp); omega
      intro R hR v5 w5 own5 hg5
      have HRe := hZ9 hR.out
      have HR5 := hZ9 (show SpsOk w2.heap.size w5 R from fun p hp => by
       rw [HRe.out] at hp
       rcases List.mem_append.1 hp with hp | hp
       · exact (HokW.out p hp).growT HownW.out (by decide) hg5
       rw [List.mem_singleton.1 hp]; exact HSn.out.growT HownW.out (by decide) hg5)
      have Hb5 := hZ9 (HbW.out.grown hg5 hbs (fun g hg => (ownsRow_block HownW.out g hg).1))
      have Own5 := hZ9 own5
      have HPf := hZ9 (show plainSp R = spUpto (plainM X) (k + 1) by rw [HRe.out, plainSp_snoc, HE.out, HP.out])
      clear own5 hg5 hR
      go_wp2
      exact ⟨⟨k + 1, R, by omega, by go_num, HPf, Own5.out, HR5.out, Hb5.out⟩, by simp [intOf]; omega⟩
    have Hn1 := hZ9 (HNe.out hk2)
    have hk3 : ¬ ((k : Int) + 1 < (X.length : Int)) := by omega
    obtain ⟨Y3, hY3⟩ : ∃ Y3, Y3 = (Y.alloc (Obj.cells #[.int .i64 x.1, .int .i64 12622780800] 24)) := ⟨_, rfl⟩
    have r3 : Y3.heap[Y.heap.size]? = some (Obj.cells #[.int .i64 x.1, .int .i64 nx] 24) := by rw [hY3]; rw [Hn1.out]; exact heap_alloc_new _ _
    have hbYY : Below Y.heap.size Y Y3 := by rw [hY3]; exact (Below.refl _ _).alloc (Nat.le_refl _) _
    have HR3 := hZ9 r3
    have HbYY := hZ9 hbYY
    have HY3 := hZ9 hY3
    clear hY3 r3 hbYY
    go_upto_region 10 with (fail)
    clear y0 y1
    rw [← HY3.out]
    have Hb3 := hZ9 (HbY.out.trans (HbYY.out.mono HbY.out.size))
    have HbO3 := hZ9 (HbYo.out.trans (HbYY.out.mono HbYo.out.size))
    have HX3 := hZ9 ((HbYY.out.block _ hwY).trans HYr.out)
    have HSo3 := hZ9 (HSo.out.below HbO3.out)
    have h3z : Y.heap.size < Y3.heap.size := (ltB9 HR3.out)
    have Hpl := hZ9 (HSo.out.row.1)
    have HCx := hZ9 (show ∀ W, Below Y3.heap.size Y3 W → W.cell? ⟨wo.heap.size, 4, none⟩ = some (.string x.2.s.plan) ∧ W.cell? ⟨wo.heap.size, 6, none⟩ = some (.slice x.2.pa x.2.pn x.2.pc) ∧ W.cell? ⟨wo.heap.size, 7, none⟩ = some (.bool x.2.s.su) ∧ W.cell? ⟨wo.heap.size, 8, none⟩ = some (.bool x.2.s.fa) from fun W hW => by
     have q := (hW.block _ (by omega)).trans HX3.out
     exact ⟨cell_of_row W _ 4 _ _ _ q, cell_of_row W _ 6 _ _ _ q, cell_of_row W _ 7 _ _ _ q, cell_of_row W _ 8 _ _ _ q⟩)
    have HCp := hZ9 (show ∀ W, Below Y3.heap.size Y3 W → W.cell? ⟨Y.heap.size, 0, none⟩ = some (.int .i64 x.1) ∧ W.cell? ⟨Y.heap.size, 1, none⟩ = some (.int .i64 nx) from fun W hW => by
     have q := (hW.block _ h3z).trans HR3.out
     exact ⟨cell_of_row W _ 0 _ _ _ q, cell_of_row W _ 1 _ _ _ q⟩)
    refine wp_region_free3 17 (fun W => Below Y3.heap.size Y3 W) (spPhi Y3 wo.heap.size a S.length cp nx x) (by kernel_rfl) (by kernel_rfl) (Below.refl _ _).drew ?_ ?_
    · generalize hfr : (fun v : Nat → Value => _) = fr
      simp only [List.take_succ_cons, List.take_zero, List.map_cons, List.map_nil, putsL, List.setIfInBounds_toArray, List.set_cons_succ, List.set_cons_zero, Nat.zero_add, Nat.reduceAdd] at hfr
      simp only [List.take_succ_cons, List.take_zero, FreeHead]
      refine ⟨?_, ?_, ?_, ?_, ?_, ?_, ?_, ?_, ?_, ?_, ?_, ?_, ?_, ?_, ?_, ?_, ?_, trivial⟩
      · intro v w3 hC hd K hK
        rw [← hfr] at hK ⊢
        go_simp
        exact hK _ _ hC (spPhi_stays (Below.refl _ _)) rfl
      · intro v w3 hC hd K hK
        obtain ⟨p0, p1⟩ := HCp.out w3 hC
        rw [← hfr] at hK ⊢
        go_simp
        exact hK _ _ hC (spPhi_stays (Below.refl _ _)) rfl
      · intro v w3 hC hd K hK
        rw [← hfr] at hK ⊢
        go_simp
        exact hK _ _ hC (spPhi_stays (Below.refl _ _)) rfl
      · intro v w3 hC hd K hK
        obtain ⟨f2, -⟩ := hd
        have e2 : v 2 = _ := f2
        rw [← hfr] at hK ⊢
        simp only [e2] at hK ⊢
        go_simp
        exact hK _ _ hC (spPhi_stays (Below.refl _ _)) rfl
      · intro v w3 hC hd K hK
        obtain ⟨f3, -⟩ := hd
        have e3 : v 3 = _ := f3
        obtain ⟨k4, k6, k7, k8⟩ := HCx.out w3 hC
        rw [← hfr] at hK ⊢
        simp only [e3] at hK ⊢
        go_simp
        exact hK _ _ hC (spPhi_stays (Below.refl _ _)) rfl
      · intro v w3 hC hd K hK
        rw [← hfr] at hK ⊢
        go_simp
        exact hK _ _ hC (spPhi_stays (Below.refl _ _)) rfl
      · intro v w3 hC hd K hK
        obtain ⟨f5, -⟩ := hd
        have e5 : v 5 = _ := f5
        rw [← hfr] at hK ⊢
        simp only [e5] at hK ⊢
        go_simp
        exact hK _ _ hC (spPhi_stays (Below.refl _ _)) rfl
      · intro v w3 hC hd K hK
        obtain ⟨f6, -⟩ := hd
        have e6 : v 6 = _ := f6
        obtain ⟨k4, k6, k7, k8⟩ := HCx.out w3 hC
        rw [← hfr] at hK ⊢
        simp only [e6] at hK ⊢
        go_simp
        exact hK _ _ hC (spPhi_stays (Below.refl _ _)) rfl
      · intro v w3 hC hd K hK
        obtain ⟨f7, -⟩ := hd
        have e7 : v 7 = _ := f7
        have hXs := rec_of_strs (HSo3.out.below hC).strs
        have hpl2 : x.2.s.prs.length ≤ 140737488355328 / 16 := by have := HPb.out; omega
        refine wp_append_copy (c := strCells) (sz := 1) (fun _ => rfl) str_one 9 22 _ 16 Try.underlying22 Try.strInfo rfl (by decide) rfl _ _ rfl Y3.heap.size hC.size none _ x.2.s.prs rfl (by rw [← hfr]; exact e7) (World.ownsRow_nil _ _ _ _) hXs (by unfold maxLen; omega) (by omega) (fun v' w' h1 h2 => ?_)
        obtain ⟨pa, pc, rfl, -, -⟩ := own_shape h1
        exact hK _ _ (hC.trans (h2.mono hC.size)) (spPhi_stays h2) ⟨pa, _, pc, rfl, h1⟩
      · intro v w3 hC hd K hK
        rw [← hfr] at hK ⊢
        go_simp
        exact hK _ _ hC (spPhi_stays (Below.refl _ _)) rfl
      · intro v w3 hC hd K hK
        obtain ⟨f9, -⟩ := hd
        have e9 : v 9 = _ := f9
        rw [← hfr] at hK ⊢
        simp only [e9] at hK ⊢
        go_simp
        exact hK _ _ hC (spPhi_stays (Below.refl _ _)) rfl
      · intro v w3 hC hd K hK
        obtain ⟨f10, -⟩ := hd
        have e10 : v 10 = _ := f10
        obtain ⟨k4, k6, k7, k8⟩ := HCx.out w3 hC
        rw [← hfr] at hK ⊢
        simp only [e10] at hK ⊢
        go_simp
        exact hK _ _ hC (spPhi_stays (Below.refl _ _)) rfl
      · intro v w3 hC hd K hK
        rw [← hfr] at hK ⊢
        go_simp
        exact hK _ _ hC (spPhi_stays (Below.refl _ _)) rfl
      · intro v w3 hC hd K hK
        obtain ⟨f12, -⟩ := hd
        have e12 : v 12 = _ := f12
        rw [← hfr] at hK ⊢
        simp only [e12] at hK ⊢
        go_simp
        exact hK _ _ hC (spPhi_stays (Below.refl _ _)) rfl
      · intro v w3 hC hd K hK
        obtain ⟨f13, -⟩ := hd
        have e13 : v 13 = _ := f13
        obtain ⟨k4, k6, k7, k8⟩ := HCx.out w3 hC
        rw [← hfr] at hK ⊢
        simp only [e13] at hK ⊢
        go_simp
        exact hK _ _ hC (spPhi_stays (Below.refl _ _)) rfl
      · intro v w3 hC hd K hK
        obtain ⟨f1, f4, f8, f11, f14, -⟩ := hd
        have e1 : v 1 = _ := f1
        have e4 : v 4 = _ := f4
        obtain ⟨pa, pn, pc, e8, ho⟩ : ∃ (pa : Option Addr) (pn pc : Nat), v 8 = .slice pa pn pc ∧ w3.ownsRow Y3.heap.size 9 1 (.slice pa pn pc) x.2.s.prs.length (x.2.s.prs.flatMap strCells) := f8
        have e11 : v 11 = _ := f11
        have e14 : v 14 = _ := f14
        have Ho := hZ9 ho
        clear ho
        rw [← hfr] at hK ⊢
        simp only [e1, e4, e8, e11, e14] at hK ⊢
        go_simp
        exact hK _ _ hC (spPhi_stays (Below.refl _ _)) ⟨pa, pn, pc, rfl, Ho.out⟩
      intro v w3 hC hd K hK
      obtain ⟨f15, -⟩ := hd
      obtain ⟨pa, pn, pc, e15, ho⟩ : ∃ (pa : Option Addr) (pn pc : Nat), v 15 = .agg #[.int .i64 x.1, .int .i64 nx, .string x.2.s.plan, .slice pa pn pc, .bool x.2.s.su, .bool x.2.s.fa] ∧ w3.ownsRow Y3.heap.size 9 1 (.slice pa pn pc) x.2.s.prs.length (x.2.s.prs.flatMap strCells) := f15
      have Ho := hZ9 ho
      clear ho
      rw [← hfr] at hK ⊢
      simp only [e15] at hK ⊢
      go_simp
      exact hK _ _ (hC.alloc hC.size _) (spPhi_stays ((Below.refl _ _).alloc (Nat.le_refl _) _)) ⟨_, pa, pn, pc, rfl, heap_alloc_new _ _, ownsRow_below Ho.out ((Below.refl _ _).alloc (Nat.le_refl _) _)⟩
    intro v w3 hC hall
    obtain ⟨g, pa, pn, pc, e16, hg, ho⟩ : ∃ (g : Nat) (pa : Option Addr) (pn pc : Nat), v 16 = .slice (some ⟨g, 0, none⟩) 1 1 ∧ w3.heap[g]? = some (.cells #[.int .i64 x.1, .int .i64 nx, .string x.2.s.plan, .slice pa pn pc, .bool x.2.s.su, .bool x.2.s.fa] 82) ∧ w3.ownsRow Y3.heap.size 9 1 (.slice pa pn pc) x.2.s.prs.length (x.2.s.prs.flatMap strCells) := hall.2
    have e0 : v 0 = .slice a S.length cp := hall.1.1.1.1.1.1.1.1.1.1.1.1.1.1.1.1.2
    have HownW := hZ9 (ownsRow_below Hown.out (HbO3.out.trans (hC.mono HbO3.out.size)))
    have HokW := hZ9 (Hok.out.below (HbO3.out.trans (hC.mono HbO3.out.size)))
    have HbW := hZ9 (Hb3.out.trans (hC.mono Hb3.out.size))
    have hbs := HbW.out.size
    have hb3s := Hb3.out.size
    have HXE := hZ9 (rec_block (c := spCells) (sz := 6) hg (x.1, nx, ⟨x.2.s, none, 0, 0, pa, pn, pc⟩) rfl)
    have HSn := hZ9 (show SbO w2.heap.size w3 ⟨x.2.s, none, 0, 0, pa, pn, pc⟩ from ⟨own_down ho hb3s, rfl, rfl, rfl, HSo.out.nus, HSo.out.plan, HSo.out.sizes⟩)
    simp only [List.take_succ_cons, List.take_zero, List.map_cons, List.map_nil, putsL, List.setIfInBounds_toArray, List.set_cons_succ, List.set_cons_zero, Nat.zero_add, Nat.reduceAdd, List.drop_succ_cons, List.drop_zero]
    simp only [e0, e16]
    clear hg ho hC hall
    generalize v 1 = u1, v 2 = u2, v 3 = u3, v 4 = u4, v 5 = u5, v 6 = u6, v 7 = u7, v 8 = u8, v 9 = u9, v 10 = u10, v 11 = u11, v 12 = u12, v 13 = u13, v 14 = u14, v 15 = u15
    clear e0 e16
    go_wp2_with (at_builtin; refine append_rec2 (c := spCells) (sz := 6) (fun _ => rfl) sp_one 82 92 _ 64 Try.underlying92 Try.spellInfo rfl (by decide) rfl _ _ rfl w2.heap.size hbs _ _ S [(x.1, nx, ⟨x.2.s, none, 0, 0, pa, pn, pc⟩)] rfl rfl HownW.out HXE.out ?hl2 ?hb2 ?_)
    case hl2 => unfold maxLen; (try simp); omega
    case hb2 => (try simp); omega
    intro R hR v5 w5 own5 hg5
    have HRe := hZ9 hR.out
    have HR5 := hZ9 (show SpsOk w2.heap.size w5 R from fun p hp => by
     rw [HRe.out] at hp
     rcases List.mem_append.1 hp with hp | hp
     · exact (HokW.out p hp).growT HownW.out (by decide) hg5
     rw [List.mem_singleton.1 hp]; exact HSn.out.growT HownW.out (by decide) hg5)
    have Hb5 := hZ9 (HbW.out.grown hg5 hbs (fun g hg => (ownsRow_block HownW.out g hg).1))
    have Own5 := hZ9 own5
    have HPf := hZ9 (show plainSp R = spUpto (plainM X) (k + 1) by rw [HRe.out, plainSp_snoc, HE.out, HP.out])
    clear own5 hg5 hR
    go_wp2
    exact ⟨⟨k + 1, R, by omega, by go_num, HPf, Own5.out, HR5.out, Hb5.out⟩, by simp [intOf]; omega⟩
  have HE := hZ9 (show spUpto (plainM X) k = spellsL n l by
   have e : k = X.length := by omega
   have e2 : X.length = (plainM X).length := (plainM_len X).symm
   unfold spellsL
   rw [e, e2, HpX.out])
  go_wp2
  go_ret
  exact ⟨a, cp, S, rfl, own_down Hown.out HbX.out.size, HP.out.trans HE.out, fun p hp => (Hok.out p hp).down HbX.out.size, HbX.out.trans (Hb.out.mono HbX.out.size)⟩
theorem any_step {s : ByteArray} {N : List ByteArray} {k : Nat} (h : k < N.length) (h1 : (N.take k).any (fun a => sameS a s) = false) (h2 : sameS N[k] s = false) : (N.take (k + 1)).any (fun a => sameS a s) = false := by
 rw [List.take_succ_eq_append_getElem h, List.any_append, h1]; simp [h2]
theorem active1_calls (p : Int × Int × SbX) (s : ByteArray) (gb base : Nat) (w : World) (h : SbO base w p.2.2) (hgb : gb < w.heap.size) (hc : w.cell? ⟨gb, 0, none⟩ = some (.string s)) :
 Calls Try.prog 29 #[spVal p, .pointer (some ⟨gb, 0, none⟩)] w fun e w' => e = .returned (.bool (hasT s p.2.2.s)) ∧ Below w.heap.size w w' := by
 obtain ⟨f, t, ⟨⟨i1, i2, i3, i4, nus, prs, su, fa⟩, na, nn, nc, pa, pn, pc⟩⟩ := p
 have hst := h.strs
 dsimp only at hst
 obtain ⟨W, hW⟩ : ∃ W, W = w.alloc (Obj.cells #[.int .i64 f, .int .i64 t, .string i4, .slice pa pn pc, .bool su, .bool fa] 82) := ⟨_, rfl⟩
 have hw0 : Below w.heap.size w W := by rw [hW]; go_grown
 have r0 : W.heap[w.heap.size]? = some (Obj.cells #[.int .i64 f, .int .i64 t, .string i4, .slice pa pn pc, .bool su, .bool fa] 82) := by rw [hW]; exact heap_alloc_new _ _
 have x3 := cell_of_row W _ 3 _ _ _ r0
 have c0 : W.cell? ⟨gb, 0, none⟩ = some (.string s) := (hw0.cell (p := ⟨gb, 0, none⟩) hgb).trans hc
 have HS := hZ9 (hst.below hw0)
 have Hb := hZ9 hw0
 have HW := hZ9 hW
 obtain ⟨a1, c1, e1, hl1, hm1, -⟩ := hst
 cases e1
 have hm1 := hm1.1
 unfold maxLen at hm1
 have HH := hZ9 (show hasT s ⟨i1, i2, i3, i4, nus, prs, su, fa⟩ = prs.any (fun a => sameS a s) from rfl)
 unfold spVal spCells
 dsimp only
 clear hW hw0 r0 hc h
 go_enter Try.func29, Try.ntmps29
 go_upto_region 1 with (fail)
 rw [← HW.out]
 go_wp2_with fail
 go_loop [9] (fun i => ∃ k : Nat, k ≤ prs.length ∧ i = .int .i64 k ∧ (prs.take k).any (fun a => sameS a s) = false) (fun i => prs.length - (intOf i).toNat)
 case atStart => exact ⟨0, Nat.zero_le _, rfl, rfl⟩
 case round =>
  obtain ⟨k, hk, rfl, hn⟩ := hrel
  have Hn := hZ9 hn
  clear hn
  by_cases hlt : k < prs.length
  · obtain ⟨av2, cap2, ee, -, -, hxx⟩ := HS.out
    cases ee
    obtain ⟨b1, o1, rfl, hB1, hxx⟩ := hxx (by rintro rfl; cases hlt)
    obtain ⟨u0, -⟩ := hxx k hlt
    rw [Nat.mul_one] at u0
    have hk0 : (0 : Int) ≤ (k : Int) := Int.natCast_nonneg _
    have hk1 : (k : Int) < (prs.length : Int) := by omega
    have HT := hZ9 (fun h => any_step hlt Hn.out h)
    have HY := hZ9 (fun h => any_hit (p := fun a => sameS a s) hlt h)
    clear hxx
    generalize prs[k] = p at *
    cases hq : sameS p s with
    | true =>
     have HE := hZ9 (HY.out hq)
     have hq1 : (p.toList == s.toList) = true := hq
     clear HT HY hq
     go_wp2
     go_ret
     exact ⟨ret_bool (by rw [HH.out, HE.out]), Hb.out⟩
    | false =>
     have HE := hZ9 (HT.out hq)
     have hq1 : (p.toList == s.toList) = false := hq
     clear HT HY hq
     go_wp2
     exact ⟨⟨k + 1, by omega, by go_num, HE.out⟩, by simp [intOf]; omega⟩
  have HE := hZ9 (any_end (p := fun a => sameS a s) (Nat.le_of_not_lt hlt) Hn.out)
  go_wp2
  go_ret
  exact ⟨ret_bool (by rw [HH.out, HE.out]), Hb.out⟩
theorem keptP_take (k : Sp → Bool) (S : List Sp) (j : Nat) (h : j < S.length) : keptP k (S.take (j + 1)) = keptP k (S.take j) ++ (if k S[j] = true then [((S[j]).f, (S[j]).t)] else []) := by
 unfold keptP
 rw [List.take_succ_eq_append_getElem h, List.filter_append, List.map_append]
 congr 1
 cases hb : k S[j] <;> simp [hb]
theorem keptP_len (k : Sp → Bool) (S : List Sp) : (keptP k S).length ≤ S.length := by
 unfold keptP; rw [List.length_map]; exact List.length_filter_le _ _
theorem plainSp_get (S : List (Int × Int × SbX)) (k : Nat) (h : k < S.length) : (plainSp S)[k]'(by rw [plainSp_len]; exact h) = ⟨(S[k]).1, (S[k]).2.1, (S[k]).2.2.s⟩ := List.getElem_map _
theorem KeptN.mono {B B' : Nat} {na na' : Option Addr} {nn nn' nc nc' : Nat} {l l' : List ByteArray} (h : KeptN B na na' nn nn' nc nc' l l') (hb : B' ≤ B) : KeptN B' na na' nn nn' nc nc' l l' := h.imp id (fun h => h.mono hb)
def isSl : Value → Bool
 | .slice _ _ _ => true
 | _ => false
theorem rec_setRow {α : Type} {c : α → List Value} {sz : Nat} (h0 : ∀ x, ∃ u, (c x)[0]? = some u ∧ isSl u = false) (hsz : 0 < sz) {w : World} {v : Value} {l : List α} (h : RecAt c sz w v l) {g : Nat} {cs : Array Value} {t : TypeId} {fr : Nat × Nat} (hg : w.heap[g]? = some (.cells cs t fr)) (hcs : ∀ (j : Nat) (u : Value), cs[j]? = some u → isSl u = true) (cs' : Array Value) : RecAt c sz (w.setRow g cs') v l := by
 obtain ⟨av, cap, rfl, h1, h2, h3⟩ := h
 refine ⟨av, cap, rfl, h1, h2, fun hne => ?_⟩
 obtain ⟨b, o, rfl, hB, hx⟩ := h3 hne
 have hb : b ≠ g := by
  rintro rfl
  have hl : 0 < l.length := List.length_pos_iff.2 hne
  have c0 := hx 0 hl 0 hsz
  obtain ⟨u, e1, e2⟩ := h0 l[0]
  rw [e1, cell_of_row w _ _ _ _ _ hg] at c0
  have := hcs _ _ c0
  rw [e2] at this
  cases this
 refine ⟨b, o, rfl, by simpa using hB, fun i hi j hj => ?_⟩
 exact (World.cell?_of_block (a := ⟨b, _, none⟩) (setRow_other _ _ _ _ hb)).trans (hx i hi j hj)
theorem strs_setRow {w : World} {v : Value} {l : List ByteArray} (h : StrsAt w v l) {g : Nat} {cs : Array Value} {t : TypeId} {fr : Nat × Nat} (hg : w.heap[g]? = some (.cells cs t fr)) (hcs : ∀ (j : Nat) (u : Value), cs[j]? = some u → isSl u = true) (cs' : Array Value) : StrsAt (w.setRow g cs') v l :=
 strs_of_rec (rec_setRow (fun _ => ⟨_, rfl, rfl⟩) (by decide) (rec_of_strs h) hg hcs cs') (strs_sizes h)
theorem BkAt.setRow {w : World} {va vs ve : Value} {X : List SbX} {b : Bk} (h : BkAt w va vs ve X b) {g : Nat} {cs : Array Value} {t : TypeId} {fr : Nat × Nat} (hg : w.heap[g]? = some (.cells cs t fr)) (hcs : ∀ (j : Nat) (u : Value), cs[j]? = some u → isSl u = true) (cs' : Array Value) : BkAt (w.setRow g cs') va vs ve X b :=
 ⟨rec_setRow (fun _ => ⟨_, rfl, rfl⟩) (by decide) h.a hg hcs cs', rec_setRow (fun _ => ⟨_, rfl, rfl⟩) (by decide) h.s hg hcs cs', h.x,
  fun x hx => ⟨strs_setRow (h.r x hx).1 hg hcs cs', strs_setRow (h.r x hx).2.1 hg hcs cs', (h.r x hx).2.2⟩, rec_setRow (fun _ => ⟨_, rfl, rfl⟩) (by decide) h.e hg hcs cs'⟩
end Go.Proofs.Ytngippiilgdnoaa
