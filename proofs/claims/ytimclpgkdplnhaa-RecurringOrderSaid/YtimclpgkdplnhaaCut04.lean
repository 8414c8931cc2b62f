/-
  The walk of the program's Cut.
-/
import Derived.Test.YtimclpgkdplnhaaSortI04
import Derived.Test.YtimclpgkdplnhaaR04d
import Derived.Test.YtimclpgkdplnhaaGather04
namespace Go.Proofs.Ytimclpgkdplnhaa
open Go.RowKit

def inB (f t x : Int) : Bool := decide (f < x) && decide (x < t)
theorem filter_snoc (f t : Int) (l : List Int) (k : Nat) (h : k < l.length) : (l.take (k + 1)).filter (inB f t) = (l.take k).filter (inB f t) ++ (if inB f t l[k] = true then [l[k]] else []) := by
  rw [List.take_succ_eq_append_getElem h, List.filter_append]
  congr 1
  by_cases e : inB f t l[k] = true
  · simp [e]
  · simp [e]

set_option maxRecDepth 100000 in
set_option maxHeartbeats 6400000 in
theorem cut_calls (f t : Int) (va : Value) (l : List Int) (w : World) (ha : IcsAt w va l) (hn : l.length ≤ 1000) :
    Calls Try.prog 19 #[.agg #[.int .i64 f, .int .i64 t], va] w (PersTo w (cutL f t l)) := by
  have hh := ha
  obtain ⟨av, cap, rfl, hlc, hm, -⟩ := ha
  have hm := hm.1
  unfold maxLen at hm
  obtain ⟨W, hW⟩ : ∃ W, W = w.alloc (Obj.cells #[Value.int .i64 f, Value.int .i64 t] 23) := ⟨_, rfl⟩
  have hw0 : Below w.heap.size w W := by rw [hW]; exact (Below.refl _ _).alloc (Nat.le_refl _) _
  have rW : W.heap[w.heap.size]? = some (Obj.cells #[Value.int .i64 f, Value.int .i64 t] 23) := by rw [hW]; exact heap_alloc_new _ _
  have hzW : w.heap.size < W.heap.size := by rw [hW]; simp
  have HW := Lib.hid hW
  have RW := Lib.hid rW
  have Hv := Lib.hid (valid_calls f t W)
  have m0 : W.cell? ⟨w.heap.size, 0, none⟩ = some (.int .i64 f) := cell_of_row W _ 0 _ _ _ rW
  have m1 : W.cell? ⟨w.heap.size, 1, none⟩ = some (.int .i64 t) := cell_of_row W _ 1 _ _ _ rW
  clear hW rW
  cases hv : validB f t with
  | false =>
    rw [hv] at Hv
    have HE := Lib.hid (show cutL f t l = [] by unfold cutL; rw [if_neg (by rw [hv]; decide)])
    clear hv
    go_enter Try.func19, Try.ntmps19
    go_upto_region 1 with (fail)
    rw [← HW.out]
    go_wp2_with fail
    refine Hv.out.mono ?_
    rintro e w1 ⟨rfl, hb1⟩
    clear m0 m1
    go_wp2
    go_ret
    exact ⟨_, rfl, by rw [HE.out]; exact SliceAt.nil w1, hw0.trans (hb1.mono hw0.size)⟩
  | true =>
    rw [hv] at Hv
    have h0 := (validB_iff f t).1 hv
    have HE := Lib.hid (show cutL f t l = prUpto (f :: cutEnds f t l) (cutEnds f t l).length by unfold cutL; rw [if_pos hv])
    clear hv
    go_enter Try.func19, Try.ntmps19
    go_upto_region 1 with (fail)
    rw [← HW.out]
    go_wp2_with fail
    refine Hv.out.mono ?_
    rintro e w1 ⟨rfl, hb1⟩
    clear m0 m1
    have q := (hb1.block _ hzW).trans RW.out
    have m0 : w1.cell? ⟨w.heap.size, 0, none⟩ = some (.int .i64 f) := cell_of_row w1 _ 0 _ _ _ q
    have m1 : w1.cell? ⟨w.heap.size, 1, none⟩ = some (.int .i64 t) := cell_of_row w1 _ 1 _ _ _ q
    have hbw1 := hw0.trans (hb1.mono hw0.size)
    have hz1 : w.heap.size < w1.heap.size := Nat.lt_of_lt_of_le hzW hb1.size
    obtain ⟨X, hX⟩ : ∃ X, X = w1.alloc (Obj.cells #[Value.int .i64 f, Value.int .i64 t] 3) := ⟨_, rfl⟩
    have rX : X.heap[w1.heap.size]? = some (Obj.cells #[Value.int .i64 f, Value.int .i64 t] 3) := by rw [hX]; exact heap_alloc_new _ _
    have hbX : Below w1.heap.size w1 X := by rw [hX]; exact (Below.refl _ _).alloc (Nat.le_refl _) _
    have hoX : X.ownsRow w1.heap.size 3 1 (.slice (some ⟨w1.heap.size, 0, none⟩) 2 2) 2 [.int .i64 f, .int .i64 t] :=
      ⟨rfl, Or.inr ⟨w1.heap.size, 2, #[.int .i64 f, .int .i64 t], rfl, Nat.le_refl _, rX, Nat.le_refl _, by decide, rfl, rfl⟩⟩
    have HX := Lib.hid hX
    have HoX := Lib.hid hoX
    have HQ := Lib.hid q
    clear hX rX hoX q hb1
    go_upto_region 5 with (fail)
    rw [← HX.out]
    clear m0 m1
    go_loopw [5, 20] (fun v i wr => ∃ k : Nat, k ≤ l.length ∧ i = .int .i64 k ∧ (∃ N : List Int, N = f :: t :: (l.take k).filter (inB f t) ∧ wr.ownsRow w1.heap.size 3 1 v N.length (N.map (Value.int .i64))) ∧ Below w1.heap.size w1 wr) (fun _ i _ => l.length - (intOf i).toNat)
    case atStart => exact ⟨0, Nat.zero_le _, rfl, ⟨[f, t], rfl, HoX.out⟩, hbX⟩
    case round =>
      obtain ⟨k, hk, rfl, ⟨N, hN, hown⟩, hb⟩ := hrel
      have hNl : N.length ≤ k + 2 := by
        have h1 := List.length_filter_le (inB f t) (l.take k)
        rw [List.length_take] at h1
        rw [hN]
        simp only [List.length_cons]
        omega
      have Hown := Lib.hid hown
      obtain ⟨ao, co, rfl, hco, hcm⟩ := own_shape hown
      clear hown
      by_cases hlt : k < l.length
      · obtain ⟨av2, cap2, e2, -, -, hx⟩ := hh.below (hbw1.trans (hb.mono hbw1.size))
        cases e2
        obtain ⟨b, o, rfl, hB, hx⟩ := hx (by rintro rfl; cases hlt)
        have c0 := hx k hlt
        unfold IntC at c0
        rw [Nat.mul_one] at c0
        have hk0 : (0 : Int) ≤ (k : Int) := Int.natCast_nonneg _
        have hk1 : (k : Int) < (l.length : Int) := by omega
        have hsn := filter_snoc f t l k hlt
        have q := (hb.block _ hz1).trans HQ.out
        have m0 : wr.cell? ⟨w.heap.size, 0, none⟩ = some (.int .i64 f) := cell_of_row wr _ 0 _ _ _ q
        have m1 : wr.cell? ⟨w.heap.size, 1, none⟩ = some (.int .i64 t) := cell_of_row wr _ 1 _ _ _ q
        clear hx q
        generalize l[k] = x at *
        have HN := Lib.hid hN
        have HSN := Lib.hid hsn
        clear hN hsn
        by_cases h1 : f < x
        · have k1 : decide (f < x) = true := decide_eq_true h1
          by_cases h2 : x < t
          · have k2 : decide (x < t) = true := decide_eq_true h2
            have HE2 := Lib.hid (show N ++ [x] = f :: t :: (l.take (k + 1)).filter (inB f t) by rw [HSN.out, if_pos (by unfold inB; rw [k1, k2]; rfl), HN.out]; rfl)
            obtain ⟨i0, hi, hy0, hy1, hy2⟩ := info_parts Try.intInfo
            have Hi := Lib.hid (And.intro hi (And.intro hy0 (And.intro hy1 hy2)))
            clear hi hy0 hy1 hy2
            have hbz := hb.size
            go_wp2_with (at_builtin; refine wpList_append_own _ rfl _ _ 34 rfl w1.heap.size 3 i0 _ 1 8 Try.underlying34 Hi.out.1 Hi.out.2.1 Hi.out.2.2.1 Hi.out.2.2.2 rfl (by decide) _ _ _ rfl (Hown.out.alloc _) ⟨wr.heap.size, 0, none⟩ 1 1 [.int .i64 x] rfl rfl (World.news_of_block (cs := #[.int .i64 x]) (t := 3) (fr := (0, 0)) (heap_alloc_new _ _)) ?aq2 ?aq3 ?aq4 ?aq5 ?_)
            case aq2 => simp [Value.oneCell']
            case aq3 => unfold maxLen; omega
            case aq4 => omega
            case aq5 => (try simp); omega
            intro v_w2 w2 hown_w2 hgrow _
            have hb2 := (hb.alloc hbz (Obj.cells #[.int .i64 x] 3)).grown hgrow (by simp; omega) (fun g hg => (ownsRow_block Hown.out g hg).1)
            have Hown2 := Lib.hid hown_w2
            clear hown_w2 hgrow
            obtain ⟨ao2, co2, rfl, -, -⟩ := own_shape Hown2.out
            go_wp2
            refine ⟨⟨k + 1, by omega, by go_num, ⟨N ++ [x], HE2.out, ?_⟩, hb2⟩, by simp [intOf]; omega⟩
            rw [List.length_append, List.map_append]
            exact Hown2.out
          · have k2 : decide (x < t) = false := decide_eq_false h2
            have HE2 := Lib.hid (show N = f :: t :: (l.take (k + 1)).filter (inB f t) by rw [HSN.out, if_neg (by unfold inB; rw [k1, k2]; decide), List.append_nil]; exact HN.out)
            go_wp2
            exact ⟨⟨k + 1, by omega, by go_num, ⟨N, HE2.out, Hown.out⟩, hb⟩, by simp [intOf]; omega⟩
        · have k1 : decide (f < x) = false := decide_eq_false h1
          have HE2 := Lib.hid (show N = f :: t :: (l.take (k + 1)).filter (inB f t) by rw [HSN.out, if_neg (by unfold inB; rw [k1]; simp), List.append_nil]; exact HN.out)
          go_wp2
          exact ⟨⟨k + 1, by omega, by go_num, ⟨N, HE2.out, Hown.out⟩, hb⟩, by simp [intOf]; omega⟩
      · obtain ⟨g, rfl⟩ : ∃ g, ao = some ⟨g, 0, none⟩ := by
          rcases Hown.out.2 with ⟨h1, h2⟩ | ⟨g, cap, cur, hv, -⟩
          · rw [hN] at h2; cases h2
          · simp only [Value.slice.injEq] at hv; exact ⟨g, hv.1⟩
        rw [List.take_of_length_le (by omega)] at hN
        have HK := Lib.hid (cut_limits f t l (sortL N) h0.2.1 (by have := sortL_perm N; rw [hN] at this ⊢; exact this) (sortL_sorted N))
        have hsl := sortL_len N
        have H3 := Lib.hid (sortI_calls w1.heap.size g co N wr Hown.out hb.size (by omega))
        have H4 := Lib.hid (fun w2 (h1 : w2.ownsRow w1.heap.size 3 1 (.slice (some ⟨g, 0, none⟩) N.length co) N.length ((sortL N).map (Value.int .i64))) (h2 : w1.heap.size ≤ w2.heap.size) => compI_calls w1.heap.size g co (sortL N) w2 (by rw [hsl]; exact h1) h2 (by omega))
        rw [hsl] at H4
        have hel := cutEnds_len f t l
        clear hN hsl
        generalize cutEnds f t l = E at *
        have HKE := Lib.hid (show Go.Lib.compact (sortL N) = f :: E from HK.out)
        clear HK
        go_wp2_with fail
        refine H3.out.mono ?_
        rintro e w2 ⟨rfl, hb2, hown2⟩
        have hb3 := hb.trans hb2
        have H5 := Lib.hid (H4.out w2 hown2 hb3.size)
        clear hown2
        go_wp2_with fail
        refine H5.out.mono ?_
        rintro e w3 ⟨rfl, hb4, hK⟩
        have hb5 := hb3.trans hb4
        rw [HKE.out] at hK ⊢
        generalize hKK : f :: E = K at *
        have hKl : K.length = E.length + 1 := by rw [← hKK]; rfl
        have HE3 := Lib.hid (show cutL f t l = prUpto K (K.length - 1) by rw [HE.out, hKl]; rfl)
        have HKI := Lib.hid hK
        have hKb : K.length ≤ 1002 := by omega
        have hKp : 1 ≤ K.length := by omega
        clear hKl hel hKK hK hh hbX Hown hb2 hb3 hb4 H3 H4 H5 HKE hNl hco hcm hk hb
        have hbw3 := hbw1.trans (hb5.mono hbw1.size)
        clear hb5
        go_wp2_with fail
        go_loopw [8, 9] (fun v i wr => ∃ n : Nat, n + 1 ≤ K.length ∧ i = .int .i64 ((n + 1 : Nat) : Int) ∧ wr.ownsRow w3.heap.size 23 2 v n ((prUpto K n).flatMap perCells) ∧ Below w3.heap.size w3 wr) (fun _ i _ => K.length - (intOf i).toNat)
        case atStart => exact ⟨0, by omega, rfl, ⟨rfl, Or.inl ⟨rfl, rfl⟩⟩, Below.refl _ _⟩
        case round =>
          obtain ⟨n, hn1, rfl, hown, hb⟩ := hrel
          have hbz := hb.size
          obtain ⟨vo, cv, rfl, hcv, -⟩ := own_shape hown
          have Hown := Lib.hid hown
          clear hown
          by_cases hlt : n + 1 < K.length
          · have Hrow := Lib.hid (show ∀ w', Below w3.heap.size w3 w' → ∀ i (hi : i < K.length), w'.cell? ⟨g, i, none⟩ = some (.int .i64 K[i]) ∧ g < w3.heap.size from fun w' hw i hi => by
              obtain ⟨av3, cap3, e3, -, -, hy⟩ := HKI.out
              cases e3
              obtain ⟨b3, o3, e4, hB3, hy⟩ := hy (by rintro rfl; cases hlt)
              cases e4
              have h1 := IntC.stays _ _ _ _ _ hw hB3 (hy i hi)
              unfold IntC at h1
              rw [Nat.mul_one, Nat.zero_add] at h1
              exact ⟨h1, hB3⟩)
            have hgl := (Hrow.out wr hb n (by omega)).2
            have HP := Lib.hid (show prUpto K (n + 1) = prUpto K n ++ [(K[n], K[n + 1])] by rw [prUpto_succ, getD_at _ _ _ (show n < K.length by omega), getD_at _ _ _ hlt])
            have Mk0 := Lib.hid (show ∀ w' : World, Below w3.heap.size w3 w' → w'.cell? ⟨g, n, none⟩ = some (.int .i64 K[n]) ∧ w'.cell? ⟨g, n + 1, none⟩ = some (.int .i64 K[n + 1]) from fun w' hw => ⟨(Hrow.out w' hw n (by omega)).1, (Hrow.out w' hw (n + 1) hlt).1⟩)
            clear Hrow
            generalize K[n] = x at *
            generalize K[n + 1] = y at *
            obtain ⟨m, hm⟩ : ∃ m : Nat, m = n + 1 := ⟨_, rfl⟩
            have Mk := Lib.hid (show ∀ w' : World, Below w3.heap.size w3 w' → w'.cell? ⟨g, n, none⟩ = some (.int .i64 x) ∧ w'.cell? ⟨g, m, none⟩ = some (.int .i64 y) by rw [hm]; exact Mk0.out)
            have HM := Lib.hid hm
            have hk0 : (0 : Int) ≤ (n : Int) := Int.natCast_nonneg _
            have hk1 : (n : Int) < (K.length : Int) := by omega
            have hk2 : (m : Int) < (K.length : Int) := by omega
            have hk3 : (0 : Int) ≤ (m : Int) := Int.natCast_nonneg _
            have hk4 : m < K.length := by omega
            have hk5 : n < K.length := by omega
            have hk7 : IntKind.i64.wrap ((m : Int) - 1) = (n : Int) := by rw [show (m : Int) - 1 = (n : Int) by omega]; exact IntWalk.i64_in _ (by omega)
            have hmb : m ≤ 2000 := by omega
            have hnb : n ≤ 2000 := by omega
            rw [← hm]
            clear Mk0 hm hlt
            obtain ⟨i0, hi, hz1', hz2', hz3'⟩ := info_parts Try.perInfo
            have Hi := Lib.hid (And.intro hi (And.intro hz1' (And.intro hz2' hz3')))
            clear hi hz1' hz2' hz3'
            have Hbl := Lib.hid (fun g hg => ownsRow_block Hown.out g hg)
            obtain ⟨c0, c1⟩ := Mk.out wr hb
            go_upto_region 16 with (fail)
            go_region_held3 (fun w' : World => w'.cell? ⟨g, n, none⟩ = some (.int .i64 x) ∧ w'.cell? ⟨g, m, none⟩ = some (.int .i64 y))
              (first
                | exact Mk.out _ (by assumption)
                | exact Mk.out _ (Below.drew hb)
                | exact Mk.out _ (Below.alloc (Below.drew hb) (by have := hb.size; exact this) _)
                | exact Mk.out _ (Below.drew (Below.alloc hb hb.size _)))
              ((refine step_append_lies _ (by rfl) _ _ _ (by rfl) w3.heap.size 23 i0 _ 2 16 Try.underlying24 Hi.out.1 Hi.out.2.1 Hi.out.2.2.1 Hi.out.2.2.2 rfl (by omega) (Value.slice vo n cv) n ((prUpto K n).flatMap perCells) (by rfl) ((Hown.out.alloc _).drew) ⟨wr.heap.size, 0, none⟩ 1 1 [.int .i64 x, .int .i64 y] (by rfl) (by rfl) (World.news_of_block (cs := #[.int .i64 x, .int .i64 y]) (t := 23) (fr := (0, 0)) (heap_alloc_new wr _)) (by simp [Value.oneCell']) (by omega) (by unfold maxLen; omega) (by omega) (by have := hb.size; simp; omega) (wr.heap.size + 1) (by simp) ?_; intro gg capg w8 hown8 hgrow8 hat8 hlt8
                have hY8 : Below w3.heap.size w3 w8 := (Below.drew (Below.alloc hb hb.size _)).grown hgrow8 (by have := hb.size; simp; omega) (fun g hg => (Hbl.out g hg).1)))
            go_wp2
            have hm := HM.out
            refine ⟨⟨n + 1, by omega, by rw [hm]; go_num, ?_, hY8⟩, by rw [hm]; simp [intOf]; omega⟩
            rw [HP.out, List.flatMap_append]
            exact hown8
          · have hkk : n = K.length - 1 := by omega
            have HF := Lib.hid (show cutL f t l = prUpto K n by rw [HE3.out, hkk])
            have hnn : ¬ ((n + 1 : Nat) : Int) < (K.length : Int) := by omega
            clear hkk
            go_wp2
            go_ret
            rw [HF.out]
            exact ⟨_, rfl, PersAt.own (by rw [prUpto_len]; exact Hown.out), hbw3.trans (hb.mono hbw3.size)⟩
end Go.Proofs.Ytimclpgkdplnhaa
