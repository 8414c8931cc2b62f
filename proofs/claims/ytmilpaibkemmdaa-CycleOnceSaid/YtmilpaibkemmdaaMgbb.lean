/-
  The walks of lists of texts with one more, and without one.
-/
import Derived.Test.YtmilpaibkemmdaaMgba
namespace Go.Proofs.Ytmilpaibkemmdaa
open Go.RowKit

theorem addr_at (g o j : Nat) : (⟨g, o, none⟩ : Addr).add j = ⟨g, o + j, none⟩ := by unfold Addr.add; split <;> simp_all
def strCells (s : ByteArray) : List Value := [.string s]
theorem str_one (s : ByteArray) : ∀ u ∈ strCells s, u.oneCell' = true := by
  intro u hu
  simp only [strCells, List.mem_cons, List.not_mem_nil, or_false] at hu
  rw [hu]; rfl
theorem Try.strInfo : (Try.prog.info? 9).map (fun i => (i.zero, i.size, i.bytes)) = some (some (.string ⟨#[]⟩), 1, 16) := by kernel_rfl
theorem strs_of_rec {w : World} {v : Value} {l : List ByteArray} (h : RecAt strCells 1 w v l) (hs : ∀ s ∈ l, s.size ≤ maxLen) : StrsAt w v l := by
  obtain ⟨av, cap, rfl, h1, h2, h3⟩ := h
  refine ⟨av, cap, rfl, h1, h2, fun hne => ?_⟩
  obtain ⟨b, o, rfl, hB, hx⟩ := h3 hne
  exact ⟨b, o, rfl, hB, fun i hi => ⟨hx i hi 0 (by decide), hs _ (List.getElem_mem hi)⟩⟩
theorem rec_of_strs {w : World} {v : Value} {l : List ByteArray} (h : StrsAt w v l) : RecAt strCells 1 w v l := by
  obtain ⟨av, cap, rfl, h1, h2, h3⟩ := h
  refine ⟨av, cap, rfl, h1, h2, fun hne => ?_⟩
  obtain ⟨b, o, rfl, hB, hx⟩ := h3 hne
  refine ⟨b, o, rfl, hB, fun i hi j hj => ?_⟩
  obtain rfl : j = 0 := by omega
  exact (hx i hi).1
theorem strs_sizes {w : World} {v : Value} {l : List ByteArray} (h : StrsAt w v l) : ∀ s ∈ l, s.size ≤ maxLen := by
  intro s hs
  obtain ⟨av, cap, rfl, -, -, hx⟩ := h
  obtain ⟨i, hi, rfl⟩ := List.mem_iff_getElem.1 hs
  obtain ⟨b, o, rfl, -, hx⟩ := hx (by rintro rfl; cases hi)
  exact (hx i hi).2
/-- append of a list of texts to a row of the call's own. -/
theorem append_txs {w : World} {ops : Array Oper} {rest : List Oper} {o : Oper} {a : Act} {Q : Exit → Act → World → Prop} (hgd : o.guard = none) (s x : Operand)
    (ho : o.op = .call { callee := .builtin .append, args := #[s, x], argTypes := #[90, 90] })
    (base : Nat) (hbase : base ≤ w.heap.size) (v vx : Value) (L X : List ByteArray) (hs : a.eval s = v) (hx : a.eval x = vx) (hown : w.ownsRow base 9 1 v L.length (L.flatMap strCells)) (hX : RecAt strCells 1 w vx X) (hlen : L.length + X.length ≤ 1000000)
    (h : ∀ R : List ByteArray, RowKit.Hid (R = L ++ X) → ∀ v' w', w'.ownsRow base 9 1 v' R.length (R.flatMap strCells) → Below base w w' → wpList Try.prog ops Q rest (a.put o.dst v') w') : wpList Try.prog ops Q (o :: rest) a w :=
  append_rec (c := strCells) (sz := 1) (fun _ => rfl) str_one 9 90 _ 16 Try.underlying90 Try.strInfo rfl (by decide) hgd s x ho base hbase v vx L X hs hx hown hX (by unfold maxLen; omega) (by omega) h
/-- A slice's memory is none, or lies from a block on. -/
def FreshA (B : Nat) (a : Option Addr) : Prop := ∀ ad, a = some ad → ad.spot = none ∧ B ≤ ad.block
theorem FreshA.plain {B : Nat} {a : Option Addr} (h : FreshA B a) : PlainA a := fun ad e => (h ad e).1
theorem own_fresh {w : World} {base : Nat} {e : TypeId} {sz n : Nat} {a : Option Addr} {m c : Nat} {xs : List Value} (h : w.ownsRow base e sz (.slice a m c) n xs) : FreshA base a := by
  rcases h.2 with ⟨h, -⟩ | ⟨g, cap, cur, hv, hg, -⟩
  · cases h; exact fun _ h => by cases h
  · cases hv; exact fun _ h => by cases h; exact ⟨rfl, hg⟩
/-- A call that returns texts. -/
def StrsTo (N : List ByteArray) (w : World) (e : Ending) (w' : World) : Prop := ∃ (a : Option Addr) (n c : Nat), e = .returned (.slice a n c) ∧ StrsAt w' (.slice a n c) N ∧ FreshA w.heap.size a ∧ Below w.heap.size w w'
theorem strsTo {N R : List ByteArray} {w w' : World} {a : Option Addr} {c : Nat} (h : w'.ownsRow w.heap.size 9 1 (.slice a R.length c) R.length (R.flatMap strCells)) (hR : R = N) (hs : ∀ s ∈ N, s.size ≤ maxLen) (hb : Below w.heap.size w w') : StrsTo N w (.returned (.slice a R.length c)) w' := by
  subst hR
  exact ⟨a, _, c, rfl, strs_of_rec (RecAt.own (fun _ => rfl) h) hs, own_fresh h, hb⟩
theorem strs_hold {w w' : World} {a : Option Addr} {n c base : Nat} {l : List ByteArray} (h : StrsAt w (.slice a n c) l) (hf : FreshA base a) (hk : ∀ k, base ≤ k → k < w.heap.size → w'.heap[k]? = w.heap[k]?) (hs : w.heap.size ≤ w'.heap.size) : StrsAt w' (.slice a n c) l := by
  obtain ⟨av, cap, e, h1, h2, h3⟩ := h
  cases e
  refine ⟨a, c, rfl, h1, h2, fun hne => ?_⟩
  obtain ⟨b, o, rfl, hB, hx⟩ := h3 hne
  have hb := hk b (hf _ rfl).2 hB
  refine ⟨b, o, rfl, by omega, fun i hi => ?_⟩
  obtain ⟨x1, x2⟩ := hx i hi
  exact ⟨(World.cell?_of_block (a := ⟨b, _, none⟩) hb).trans x1, x2⟩
theorem withT_sizes {L : List ByteArray} {s : ByteArray} (h : ∀ x ∈ L, x.size ≤ maxLen) (hs : s.size ≤ maxLen) : ∀ x ∈ withT L s, x.size ≤ maxLen := by
  intro x hx
  unfold withT at hx
  rw [List.mem_append, List.mem_append, List.mem_singleton] at hx
  rcases hx with (hx | rfl) | hx
  · exact h x (List.mem_of_mem_take hx)
  · exact hs
  · exact h x (List.mem_of_mem_drop hx)

set_option maxRecDepth 100000 in
set_option maxHeartbeats 3200000 in
theorem with_calls (v : Value) (L : List ByteArray) (s : ByteArray) (w : World) (h : StrsAt w v L) (hp : ∀ a n c, v = .slice a n c → PlainA a) (hs : s.size ≤ maxLen) (hl : L.length ≤ 10000) :
    Calls Try.prog 83 #[v, .string s] w (StrsTo (withT L s) w) := by
  have HA := Lib.hid h
  have HR := Lib.hid (rec_of_strs h)
  have HSz := Lib.hid (withT_sizes (strs_sizes h) hs)
  obtain ⟨aa, an, rfl, hla, hma, hxx⟩ := h
  have hma1 := hma.1
  unfold maxLen at hma1
  cases aa with
  | none =>
    obtain rfl := hma.2 rfl
    obtain rfl : L = [] := List.length_eq_zero_iff.1 (by omega)
    have HK := Lib.hid (show kW [] s = 0 from rfl)
    have hk : 0 ≤ ([] : List ByteArray).length := Nat.le_refl _
    obtain ⟨L, hL⟩ : ∃ L : List ByteArray, L = [] := ⟨_, rfl⟩
    have HL := Lib.hid hL
    clear hma hxx hp
    go_enter Try.func83, Try.ntmps83
    go_wp2_with fail
    go_loop [5] (fun i => i = .int .i64 0) (fun _ => 0)
    case atStart => exact rfl
    case round =>
      obtain rfl := hrel
      go_upto_region 4 with (fail)
      obtain ⟨Y, hY⟩ : ∃ Y, Y = w.alloc (Obj.cells #[] 9) := ⟨_, rfl⟩
      have hbY : Below w.heap.size w Y := by rw [hY]; go_grown
      have hown0 : Y.ownsRow w.heap.size 9 1 (.slice (some ⟨w.heap.size, 0, none⟩) 0 0) 0 [] := by rw [hY]; exact own_empty w _
      have HY := Lib.hid hY
      have Hown0 := Lib.hid hown0
      have HbY := Lib.hid hbY
      have hbs := hbY.size
      have HT := Lib.hid (RecAt.below (sliceAt_take HR.out 0 hk : RecAt strCells 1 w _ _) hbY)
      have HD := Lib.hid (sliceAt_drop HR.out 0 hk : RecAt strCells 1 w _ _)
      have HWt := Lib.hid (show ([] : List ByteArray).take 0 ++ [s] ++ ([] : List ByteArray).drop 0 = withT [] s by unfold withT; rw [HK.out])
      obtain ⟨T, hT⟩ : ∃ T, T = ([] : List ByteArray).take 0 := ⟨_, rfl⟩
      obtain ⟨D, hD⟩ : ∃ D, D = ([] : List ByteArray).drop 0 := ⟨_, rfl⟩
      have hTb : T.length ≤ 10000 := by rw [hT, List.length_take]; omega
      have hDb : D.length ≤ 10000 := by rw [hD, List.length_drop]; omega
      rw [← hT] at HT HWt
      rw [← hD] at HD HWt
      clear hT hD hY hbY hown0
      go_wp2_with (at_builtin; rw [← HY.out]; refine append_txs rfl _ _ rfl w.heap.size hbs _ _ [] T rfl rfl Hown0.out ?hX1 ?hl1 ?_)
      case hX1 => exact HT.out
      case hl1 => first | omega | (simp; omega)
      intro P5 hP5 v5 w5 own5 hb5
      obtain rfl : T = P5 := hP5.out.symm
      clear hP5
      have Hb5 := Lib.hid (HbY.out.trans hb5)
      have Own5 := Lib.hid own5
      have hbs5 := Hb5.out.size
      obtain ⟨a5, c5, rfl, -, -⟩ := own_shape own5
      clear own5 hb5
      have HX2 := Lib.hid (RecAt.one (c := strCells) (sz := 1) w5 s 9 #[.string s] rfl)
      go_wp2_with (at_builtin; refine append_txs rfl _ _ rfl w.heap.size ?hs2 _ _ T [s] rfl rfl (Own5.out.alloc _) HX2.out ?hl2 ?_)
      case hs2 => simp; omega
      case hl2 => simp; omega
      intro R6 hR6 v6 w6 own6 hb6
      have Hb6 := Lib.hid ((Hb5.out.alloc hbs5 (Obj.cells #[.string s] 9)).trans hb6)
      have HR6 := Lib.hid hR6.out
      have hR6l : R6.length ≤ 10001 := by rw [hR6.out, List.length_append, List.length_singleton]; omega
      have hbs6 := Hb6.out.size
      obtain ⟨a6, c6, rfl, -, -⟩ := own_shape own6
      have Own6 := Lib.hid own6
      clear own6 hb6 hR6
      have HD := Lib.hid (RecAt.below HD.out Hb6.out)
      have HF := Lib.hid (fun (R : List ByteArray) (h : R = R6 ++ D) => (h.trans (by rw [HR6.out, HWt.out]) : R = withT [] s))
      go_wp2_with (at_builtin; refine append_txs rfl _ _ rfl w.heap.size ?hs3 _ _ R6 D rfl rfl Own6.out ?hX3 ?hl3 ?_)
      case hs3 => exact hbs6
      case hX3 => exact HD.out
      case hl3 => omega
      intro R hR v7 w7 own7 hb7
      have Hb7 := Lib.hid (Hb6.out.trans hb7)
      have HRe := Lib.hid (HF.out R hR.out)
      obtain ⟨a7, c7, rfl, -, -⟩ := own_shape own7
      have Own7 := Lib.hid own7
      clear own7 hb7 hR
      go_wp2
      go_ret
      exact strsTo Own7.out HRe.out HSz.out Hb7.out
  | some ad =>
    obtain ⟨ab, ao, asp⟩ := ad
    obtain rfl : asp = none := hp _ _ _ rfl _ rfl
    clear hma hxx hp
    go_enter Try.func83, Try.ntmps83
    go_wp2_with fail
    go_loop [5] (fun i => ∃ k : Nat, k ≤ L.length ∧ i = .int .i64 k ∧ ∀ j (hj : j < L.length), j < k → Op.bytesLess L[j].toList s.toList = true) (fun i => L.length - (intOf i).toNat)
    case atStart => exact ⟨0, Nat.zero_le _, rfl, fun j _ h => by omega⟩
    case round =>
      obtain ⟨k, hk, rfl, hno⟩ := hrel
      have Hno := Lib.hid hno
      clear hno
      have hk0 : (0 : Int) ≤ (k : Int) := Int.natCast_nonneg _
      by_cases hlt : k < L.length
      · have hk1 : (k : Int) < (L.length : Int) := by omega
        obtain ⟨a2, n2, e2, -, -, hx⟩ := HA.out
        cases e2
        obtain ⟨bb, o, e3, hB, hx⟩ := hx (by rintro rfl; cases hlt)
        cases e3
        obtain ⟨x0, -⟩ := hx k hlt
        rw [Nat.mul_one] at x0
        clear hx
        cases hb : Op.bytesLess L[k].toList s.toList with
        | true =>
          have HNx := Lib.hid (show ∀ j (hj : j < L.length), j < k + 1 → Op.bytesLess L[j].toList s.toList = true from fun j hj hjk => by
            by_cases h : j = k
            · subst h; exact hb
            · exact Hno.out j hj (by omega))
          generalize L[k] = a at *
          go_wp2
          exact ⟨⟨k + 1, by omega, by go_num, HNx.out⟩, by simp [intOf]; omega⟩
        | false =>
          have HK := Lib.hid (kW_at hlt (fun j hj => Hno.out j (by omega) hj) hb)
          have Hlt := Lib.hid hlt
          generalize L[k] = a at *
          go_upto_region 4 with (fail)
          obtain ⟨Y, hY⟩ : ∃ Y, Y = w.alloc (Obj.cells #[] 9) := ⟨_, rfl⟩
          have hbY : Below w.heap.size w Y := by rw [hY]; go_grown
          have hown0 : Y.ownsRow w.heap.size 9 1 (.slice (some ⟨w.heap.size, 0, none⟩) 0 0) 0 [] := by rw [hY]; exact own_empty w _
          have HY := Lib.hid hY
          have Hown0 := Lib.hid hown0
          have HbY := Lib.hid hbY
          have hbs := hbY.size
          have HT := Lib.hid (RecAt.below (sliceAt_take HR.out k hk : RecAt strCells 1 w _ _) hbY)
          have HD := Lib.hid (sliceAt_drop HR.out k hk : RecAt strCells 1 w _ _)
          have HWt := Lib.hid (show L.take k ++ [s] ++ L.drop k = withT L s by unfold withT; rw [HK.out])
          obtain ⟨T, hT⟩ : ∃ T, T = L.take k := ⟨_, rfl⟩
          obtain ⟨D, hD⟩ : ∃ D, D = L.drop k := ⟨_, rfl⟩
          have hTb : T.length ≤ 10000 := by rw [hT, List.length_take]; omega
          have hDb : D.length ≤ 10000 := by rw [hD, List.length_drop]; omega
          rw [← hT] at HT HWt
          rw [← hD] at HD HWt
          clear hT hD hY hbY hown0
          go_wp2_with (at_builtin; rw [← HY.out]; refine append_txs rfl _ _ rfl w.heap.size hbs _ _ [] T rfl rfl Hown0.out ?hX1 ?hl1 ?_)
          case hX1 => exact HT.out
          case hl1 => first | omega | (simp; omega)
          intro P5 hP5 v5 w5 own5 hb5
          obtain rfl : T = P5 := hP5.out.symm
          clear hP5
          have Hb5 := Lib.hid (HbY.out.trans hb5)
          have Own5 := Lib.hid own5
          have hbs5 := Hb5.out.size
          obtain ⟨a5, c5, rfl, -, -⟩ := own_shape own5
          clear own5 hb5
          have HX2 := Lib.hid (RecAt.one (c := strCells) (sz := 1) w5 s 9 #[.string s] rfl)
          go_wp2_with (at_builtin; refine append_txs rfl _ _ rfl w.heap.size ?hs2 _ _ T [s] rfl rfl (Own5.out.alloc _) HX2.out ?hl2 ?_)
          case hs2 => simp; omega
          case hl2 => simp; omega
          intro R6 hR6 v6 w6 own6 hb6
          have Hb6 := Lib.hid ((Hb5.out.alloc hbs5 (Obj.cells #[.string s] 9)).trans hb6)
          have HR6 := Lib.hid hR6.out
          have hR6l : R6.length ≤ 10001 := by rw [hR6.out, List.length_append, List.length_singleton]; omega
          have hbs6 := Hb6.out.size
          obtain ⟨a6, c6, rfl, -, -⟩ := own_shape own6
          have Own6 := Lib.hid own6
          clear own6 hb6 hR6
          have HD := Lib.hid (RecAt.below HD.out Hb6.out)
          have HF := Lib.hid (fun (R : List ByteArray) (h : R = R6 ++ D) => (h.trans (by rw [HR6.out, HWt.out]) : R = withT L s))
          by_cases hco : an = k
          · have HD := Lib.hid (show RecAt strCells 1 w6 (.slice (some ⟨ab, ao, none⟩) (L.length - k) 0) D by
              have h := HD.out
              rw [if_pos hco, hco, Nat.sub_self] at h
              exact h)
            go_wp2_with (at_builtin; refine append_txs rfl _ _ rfl w.heap.size ?hs3 _ _ R6 D rfl rfl Own6.out ?hX3 ?hl3 ?_)
            case hs3 => exact hbs6
            case hX3 => exact HD.out
            case hl3 => omega
            intro R hR v7 w7 own7 hb7
            have Hb7 := Lib.hid (Hb6.out.trans hb7)
            have HRe := Lib.hid (HF.out R hR.out)
            obtain ⟨a7, c7, rfl, -, -⟩ := own_shape own7
            have Own7 := Lib.hid own7
            clear own7 hb7 hR
            go_wp2
            go_ret
            exact strsTo Own7.out HRe.out HSz.out Hb7.out
          · have HD := Lib.hid (show RecAt strCells 1 w6 (.slice (some ⟨ab, ao + k, none⟩) (L.length - k) (an - k)) D by
              have h := HD.out
              rw [if_neg hco, Option.map_some, addr_at, Nat.mul_one] at h
              exact h)
            go_wp2_with (at_builtin; refine append_txs rfl _ _ rfl w.heap.size ?hs3 _ _ R6 D rfl rfl Own6.out ?hX3 ?hl3 ?_)
            case hs3 => exact hbs6
            case hX3 => exact HD.out
            case hl3 => omega
            intro R hR v7 w7 own7 hb7
            have Hb7 := Lib.hid (Hb6.out.trans hb7)
            have HRe := Lib.hid (HF.out R hR.out)
            obtain ⟨a7, c7, rfl, -, -⟩ := own_shape own7
            have Own7 := Lib.hid own7
            clear own7 hb7 hR
            go_wp2
            go_ret
            exact strsTo Own7.out HRe.out HSz.out Hb7.out
      · have HK := Lib.hid (show kW L s = k by rw [kW_all (s := s) (fun j hj => Hno.out j hj (by omega))]; omega)
        have hkL : k = L.length := by omega
        have hnlt : ¬ (k : Int) < (L.length : Int) := by omega
        clear hkL
        go_upto_region 4 with (fail)
        obtain ⟨Y, hY⟩ : ∃ Y, Y = w.alloc (Obj.cells #[] 9) := ⟨_, rfl⟩
        have hbY : Below w.heap.size w Y := by rw [hY]; go_grown
        have hown0 : Y.ownsRow w.heap.size 9 1 (.slice (some ⟨w.heap.size, 0, none⟩) 0 0) 0 [] := by rw [hY]; exact own_empty w _
        have HY := Lib.hid hY
        have Hown0 := Lib.hid hown0
        have HbY := Lib.hid hbY
        have hbs := hbY.size
        have HT := Lib.hid (RecAt.below (sliceAt_take HR.out k hk : RecAt strCells 1 w _ _) hbY)
        have HD := Lib.hid (sliceAt_drop HR.out k hk : RecAt strCells 1 w _ _)
        have HWt := Lib.hid (show L.take k ++ [s] ++ L.drop k = withT L s by unfold withT; rw [HK.out])
        obtain ⟨T, hT⟩ : ∃ T, T = L.take k := ⟨_, rfl⟩
        obtain ⟨D, hD⟩ : ∃ D, D = L.drop k := ⟨_, rfl⟩
        have hTb : T.length ≤ 10000 := by rw [hT, List.length_take]; omega
        have hDb : D.length ≤ 10000 := by rw [hD, List.length_drop]; omega
        rw [← hT] at HT HWt
        rw [← hD] at HD HWt
        clear hT hD hY hbY hown0
        go_wp2_with (at_builtin; rw [← HY.out]; refine append_txs rfl _ _ rfl w.heap.size hbs _ _ [] T rfl rfl Hown0.out ?hX1 ?hl1 ?_)
        case hX1 => exact HT.out
        case hl1 => first | omega | (simp; omega)
        intro P5 hP5 v5 w5 own5 hb5
        obtain rfl : T = P5 := hP5.out.symm
        clear hP5
        have Hb5 := Lib.hid (HbY.out.trans hb5)
        have Own5 := Lib.hid own5
        have hbs5 := Hb5.out.size
        obtain ⟨a5, c5, rfl, -, -⟩ := own_shape own5
        clear own5 hb5
        have HX2 := Lib.hid (RecAt.one (c := strCells) (sz := 1) w5 s 9 #[.string s] rfl)
        go_wp2_with (at_builtin; refine append_txs rfl _ _ rfl w.heap.size ?hs2 _ _ T [s] rfl rfl (Own5.out.alloc _) HX2.out ?hl2 ?_)
        case hs2 => simp; omega
        case hl2 => simp; omega
        intro R6 hR6 v6 w6 own6 hb6
        have Hb6 := Lib.hid ((Hb5.out.alloc hbs5 (Obj.cells #[.string s] 9)).trans hb6)
        have HR6 := Lib.hid hR6.out
        have hR6l : R6.length ≤ 10001 := by rw [hR6.out, List.length_append, List.length_singleton]; omega
        have hbs6 := Hb6.out.size
        obtain ⟨a6, c6, rfl, -, -⟩ := own_shape own6
        have Own6 := Lib.hid own6
        clear own6 hb6 hR6
        have HD := Lib.hid (RecAt.below HD.out Hb6.out)
        have HF := Lib.hid (fun (R : List ByteArray) (h : R = R6 ++ D) => (h.trans (by rw [HR6.out, HWt.out]) : R = withT L s))
        by_cases hco : an = k
        · have HD := Lib.hid (show RecAt strCells 1 w6 (.slice (some ⟨ab, ao, none⟩) (L.length - k) 0) D by
            have h := HD.out
            rw [if_pos hco, hco, Nat.sub_self] at h
            exact h)
          go_wp2_with (at_builtin; refine append_txs rfl _ _ rfl w.heap.size ?hs3 _ _ R6 D rfl rfl Own6.out ?hX3 ?hl3 ?_)
          case hs3 => exact hbs6
          case hX3 => exact HD.out
          case hl3 => omega
          intro R hR v7 w7 own7 hb7
          have Hb7 := Lib.hid (Hb6.out.trans hb7)
          have HRe := Lib.hid (HF.out R hR.out)
          obtain ⟨a7, c7, rfl, -, -⟩ := own_shape own7
          have Own7 := Lib.hid own7
          clear own7 hb7 hR
          go_wp2
          go_ret
          exact strsTo Own7.out HRe.out HSz.out Hb7.out
        · have HD := Lib.hid (show RecAt strCells 1 w6 (.slice (some ⟨ab, ao + k, none⟩) (L.length - k) (an - k)) D by
            have h := HD.out
            rw [if_neg hco, Option.map_some, addr_at, Nat.mul_one] at h
            exact h)
          go_wp2_with (at_builtin; refine append_txs rfl _ _ rfl w.heap.size ?hs3 _ _ R6 D rfl rfl Own6.out ?hX3 ?hl3 ?_)
          case hs3 => exact hbs6
          case hX3 => exact HD.out
          case hl3 => omega
          intro R hR v7 w7 own7 hb7
          have Hb7 := Lib.hid (Hb6.out.trans hb7)
          have HRe := Lib.hid (HF.out R hR.out)
          obtain ⟨a7, c7, rfl, -, -⟩ := own_shape own7
          have Own7 := Lib.hid own7
          clear own7 hb7 hR
          go_wp2
          go_ret
          exact strsTo Own7.out HRe.out HSz.out Hb7.out
end Go.Proofs.Ytmilpaibkemmdaa
