/-
  The walk of zones.Minimal.
-/
import Derived.Test.YtcfmndhjmlbcoaaZoneM
namespace Go.Proofs.Ytcfmndhjmlbcoaa
open Go.RowKit Go.Sort

theorem row_set {w : World} {g : Nat} {a b : Value} {t : TypeId} (h : w.heap[g]? = some (Obj.cells #[a, b] t)) (x : Value) : (w.setCell ⟨g, 1, none⟩ x).heap[g]? = some (Obj.cells #[a, x] t) := by
  simp [World.setCell, Array.getElem?_modify, h]
theorem num_fits {q : ByteArray} (h : isNum q = true) : 1 ≤ q.size ∧ q.size ≤ 15 := by
  unfold isNum at h
  rw [Bool.and_eq_true, decide_eq_true_eq] at h
  exact h.1

set_option maxRecDepth 100000 in
set_option maxHeartbeats 12800000 in
theorem zmin_calls (v : Value) (l : List Zn) (w : World) (h : ZnsAt w v l) :
    Calls Try.prog 40 #[v] w (MinTo l w) := by
  have hh := h
  have HI := Lib.hid (index_calls v l w h)
  have HN := Lib.hid (fun w' hc (hb : Below w.heap.size w w') => (minTo_nil hc hb : MinTo l w _ w'))
  have HK := Lib.hid (fun hc => (checkZ_ok (l := l) hc))
  obtain ⟨av, cap, rfl, hlc, hm, -⟩ := h
  have hm := hm.1
  unfold maxLen at hm
  go_enter Try.func40, Try.ntmps40
  go_wp2_with fail
  refine HI.out.mono ?_
  rintro e w1 ⟨m, rfl, hb1, g1, g2⟩
  have HE := Lib.hid (fun hc (R S : List Zr) (h1 : RawOf l l.length R) (h2 : S.Perm R) (h3 : S.Pairwise (fun x y => ¬ ltT y.1 x.1)) => rawOf_end hc h1 h2 h3)
  generalize hc : checkZ l = c at *
  by_cases h0 : c = 0
  · subst h0
    obtain ⟨b, hbb, rfl, hO⟩ := g2 rfl
    obtain ⟨hl64, hok, hkn, -⟩ := HK.out rfl
    have HE2 := Lib.hid (fun (R S : List Zr) (h1 : RawOf l l.length R) (h2 : S.Perm R) (h3 : S.Pairwise (fun x y => ¬ ltT y.1 x.1)) => HE.out rfl R S h1 h2 h3)
    have Hok := Lib.hid hok
    have Hkn := Lib.hid hkn
    have hlb := World.ownsMap.lt hO
    have HO := Lib.hid hO
    clear g1 g2 HN HK hO hc hok hkn hbb
    go_wp2_with fail
    go_loopw [5, 22] (fun vo i wr => ∃ k : Nat, k ≤ l.length ∧ i = .int .i64 k ∧ ∃ R : List Zr, wr.ownsRow w1.heap.size 62 2 vo R.length (R.flatMap zrCells) ∧ RdZ wr vo.ownBlock R ∧ RawOf l k R ∧ Below w1.heap.size w1 wr) (fun _ i _ => l.length - (intOf i).toNat)
    case atStart => exact ⟨0, Nat.zero_le _, rfl, [], ⟨rfl, Or.inl ⟨rfl, rfl⟩⟩, fun r hr => (by cases hr), ⟨Nat.le_refl _, by simp, fun r hr => (by cases hr), fun x => by simp [prs]⟩, Below.refl _ _⟩
    case round =>
      obtain ⟨wo, rfl⟩ : ∃ wo : World, wo = wr := ⟨_, rfl⟩
      obtain ⟨k, hk, rfl, R, hown, hrd, hraw, hb⟩ := hrel
      have Hb := Lib.hid hb
      have Hown := Lib.hid hown
      have Hrd := Lib.hid hrd
      have Hraw := Lib.hid hraw
      have hR64 : R.length ≤ 64 := Nat.le_trans hraw.1 (by omega)
      obtain ⟨ao, co, rfl, hco, hcm⟩ := own_shape hown
      clear hown hrd hraw
      by_cases hlt : k < l.length
      · obtain ⟨av2, cap2, e2, -, -, hx⟩ := hh.below (hb1.trans (hb.mono hb1.size))
        cases e2
        obtain ⟨bz, o, rfl, hB, hx⟩ := hx (by rintro rfl; cases hlt)
        obtain ⟨⟨c0, s0⟩, sv, c1, hs⟩ := hx k hlt
        have hk0 : (0 : Int) ≤ (k : Int) := Int.natCast_nonneg _
        have hk1 : (k : Int) < (l.length : Int) := by omega
        have Hsk := Lib.hid (fun hn => rawOf_skip Hraw.out hlt hn)
        have Hmo := Lib.hid (fun r hr hne hs hp => rawOf_more Hraw.out hlt r hr hne hs hp)
        have hzk := Hok.out l[k] (List.getElem_mem hlt)
        have hndk : l[k].2.Nodup := by
          have := Hkn.out
          unfold allPr at this
          exact (List.pairwise_flatMap.1 this).1 _ (List.getElem_mem hlt)
        clear hx
        generalize l[k] = y at *
        obtain ⟨nm, ps⟩ := y
        dsimp only at c0 c1 s0 hs Hsk Hmo hndk
        obtain ⟨-, -, hp64, hnum⟩ := hzk
        dsimp only at hp64 hnum
        have Hnum := Lib.hid hnum
        have Hnd := Lib.hid hndk
        have Hs := Lib.hid hs
        obtain ⟨asv, cs, rfl, hsc, hms, -⟩ := hs
        have hms := hms.1
        unfold maxLen at hms
        obtain ⟨X, hX⟩ : ∃ X, X = wo.alloc (Obj.cells #[Value.string nm, .slice asv ps.length cs] 62) := ⟨_, rfl⟩
        have hbX : Below wo.heap.size wo X := by rw [hX]; exact (Below.refl _ _).alloc (Nat.le_refl _) _
        have hzX : X.heap.size = wo.heap.size + 1 := by rw [hX]; simp
        have rX : X.heap[wo.heap.size]? = some (Obj.cells #[Value.string nm, .slice asv ps.length cs] 62) := by rw [hX]; exact heap_alloc_new _ _
        obtain ⟨Y, hY⟩ : ∃ Y, Y = X.alloc (Obj.cells #[Value.string nm, .slice none 0 0] 62) := ⟨_, rfl⟩
        have hbY : Below X.heap.size X Y := by rw [hY]; exact (Below.refl _ _).alloc (Nat.le_refl _) _
        have hzY : Y.heap.size = X.heap.size + 1 := by rw [hY]; simp
        have rY : Y.heap[X.heap.size]? = some (Obj.cells #[Value.string nm, .slice none 0 0] 62) := by rw [hY]; exact heap_alloc_new _ _
        have rZ := (hbY.block wo.heap.size (by omega)).trans rX
        have HX := Lib.hid hX
        have HY := Lib.hid hY
        have HrZ := Lib.hid rZ
        have HrY := Lib.hid rY
        have x0 := cell_of_row X _ 0 _ _ _ rX
        have x1 := cell_of_row X _ 1 _ _ _ rX
        clear hX hY hndk hnum rX
        go_upto_region 8 with (fail)
        rw [← HX.out]
        go_upto_region 9 with (fail)
        rw [← HY.out]
        have z1 := cell_of_row Y _ 1 _ _ _ rZ
        clear x0 x1 c0 c1 rY rZ
        go_wp2_with fail
        clear z1
        go_loopw [32] (fun i wq => ∃ j : Nat, j ≤ ps.length ∧ i = .int .i64 j ∧ ∃ (ax : Option Addr) (cx : Nat) (N : List ByteArray), N = (ps.take j).filter (fun p => keepP (prs l) (p, nm)) ∧ wq.heap[wo.heap.size + 1]? = some (Obj.cells #[Value.string nm, .slice ax N.length cx] 62) ∧ wq.ownsRow (wo.heap.size + 2) 9 1 (.slice ax N.length cx) N.length (N.map Value.string) ∧ Below (wo.heap.size + 1) Y wq) (fun i _ => ps.length - (intOf i).toNat)
        case atStart => exact ⟨0, Nat.zero_le _, rfl, none, 0, [], rfl, by rw [← hzX]; exact HrY.out, ⟨rfl, Or.inl ⟨rfl, rfl⟩⟩, Below.refl _ _⟩
        case round =>
          obtain ⟨j, hj, rfl, ax, cx, N, hNe, hrow, hownx, hbq⟩ := hrel
          have HNe := Lib.hid hNe
          have Hrow := Lib.hid hrow
          have Hownx := Lib.hid hownx
          have Hbq := Lib.hid hbq
          have hNl : N.length ≤ j := by
            rw [hNe]
            refine Nat.le_trans (List.length_filter_le _ _) ?_
            rw [List.length_take]; omega
          have hYq := hbq.size
          have hzY' : Y.heap.size = wo.heap.size + 2 := by omega
          have Hwq := Lib.hid (show Below wo.heap.size wo wr from (hbX.trans (hbY.mono (by omega))).trans (hbq.mono (by omega)))
          obtain ⟨-, -, -, hcx, hcxm⟩ : ∃ a c, Value.slice ax N.length cx = .slice a N.length c ∧ N.length ≤ c ∧ c ≤ maxLen := own_shape hownx
          have y0 := cell_of_row wr _ 0 _ _ _ hrow
          have y1 := cell_of_row wr _ 1 _ _ _ hrow
          have rz := (hbq.block wo.heap.size (by omega)).trans HrZ.out
          have z0 := cell_of_row wr _ 0 _ _ _ rz
          have z1 := cell_of_row wr _ 1 _ _ _ rz
          have hgw : wo.heap.size + 1 < wr.heap.size := by omega
          have HOq := Lib.hid (HO.out.below (Hb.out.trans (Hwq.out.mono Hb.out.size)))
          clear hNe hrow hownx hbq rz
          by_cases hjl : j < ps.length
          · have HFT := Lib.hid (filter_take (fun p => keepP (prs l) (p, nm)) ps j hjl)
            obtain ⟨av4, cap4, e4, -, -, hy⟩ := Hs.out.below Hwq.out
            cases e4
            obtain ⟨b4, o4, rfl, hB4, hy⟩ := hy (by rintro rfl; cases hjl)
            obtain ⟨d0, ds⟩ := hy j hjl
            rw [Nat.mul_one] at d0
            have hj0 : (0 : Int) ≤ (j : Int) := Int.natCast_nonneg _
            have hj1 : (j : Int) < (ps.length : Int) := by omega
            have hnq := num_fits (Hnum.out ps[j] (List.getElem_mem hjl))
            clear hy
            generalize ps[j] = q at *
            obtain ⟨hq1, hq2⟩ := hnq
            have hsub : (q.size : Int) - 1 = ((q.size - 1 : Nat) : Int) := by omega
            have HL := Lib.hid (longest_calls b (prs l) q (q.size - 1) wr HOq.out ds (Nat.sub_le _ _))
            have HKp := Lib.hid (show keepP (prs l) (q, nm) = !((longP (prs l) q (q.size - 1)).2 && sameS (longP (prs l) q (q.size - 1)).1 nm) from rfl)
            generalize longP (prs l) q (q.size - 1) = r at *
            obtain ⟨up, ok⟩ := r
            dsimp only at HL HKp
            cases ok with
            | false =>
              have HKt := Lib.hid (HKp.out.trans rfl : keepP (prs l) (q, nm) = true)
              go_wp2_with fail
              refine HL.out.mono ?_
              rintro e w4 ⟨rfl, rfl⟩
              go_upto_region 14 with (fail)
              obtain ⟨i0, hi, hz0, hz1, hz2⟩ := info_parts Try.stringInfo
              have Hi := Lib.hid (And.intro hi (And.intro hz0 (And.intro hz1 hz2)))
              clear hi hz0 hz1 hz2
              have HNq := Lib.hid (show N ++ [q] = (ps.take (j + 1)).filter (fun p => keepP (prs l) (p, nm)) by rw [HFT.out, ← HNe.out, if_pos HKt.out])
              go_wp2_with (at_builtin; refine wpList_append_own _ rfl _ _ 53 rfl (wo.heap.size + 2) 9 i0 _ 1 16 Try.underlying53 Hi.out.1 Hi.out.2.1 Hi.out.2.2.1 Hi.out.2.2.2 rfl (by decide) _ _ _ rfl (Hownx.out.alloc _) ⟨wr.heap.size, 0, none⟩ 1 1 [.string q] rfl rfl (World.news_of_block (cs := #[.string q]) (t := 9) (fr := (0, 0)) (heap_alloc_new _ _)) ?aq2 ?aq3 ?aq4 ?aq5 ?_)
              case aq2 => simp [Value.oneCell']
              case aq3 => unfold maxLen; omega
              case aq4 => omega
              case aq5 => (try simp); omega
              intro v2 w2 hown2 hgrow _
              have hown2' := hown2
              obtain ⟨ax2, cx2, rfl, -, -⟩ := own_shape hown2'
              have Hown2 := Lib.hid hown2
              have hrow2 := (hgrow.block (wo.heap.size + 1) (by simp; omega) (fun e => by have := (ownsRow_block Hownx.out _ e.symm).1; omega)).trans ((Below.heap_alloc wr _ _ (by omega)).trans Hrow.out)
              have Hrow2 := Lib.hid hrow2
              have y2 := cell_of_row w2 _ 1 _ _ _ hrow2
              have fr2 : w2.frozen? ⟨wo.heap.size + 1, 1, none⟩ = false := by simp [World.frozen?, hrow2]
              have Hb2 := Lib.hid (((Hbq.out.alloc (by omega) (Obj.cells #[.string q] 9)).grown hgrow (by simp; omega) (fun g e => by have := (ownsRow_block Hownx.out _ e).1; omega)))
              clear hown2 hown2' hgrow hrow2 y0 y1
              go_wp2
              refine ⟨⟨j + 1, by omega, by go_num, ax2, cx2, N ++ [q], HNq.out, ?_, ?_, Hb2.out.setCell (p := ⟨wo.heap.size + 1, 1, none⟩) (Nat.le_refl _) _⟩, by simp [intOf]; omega⟩
              · rw [List.length_append]
                exact row_set Hrow2.out _
              · rw [List.length_append, List.map_append]
                exact ownsRow_setCell_below Hown2.out (a := ⟨wo.heap.size + 1, 1, none⟩) (by show wo.heap.size + 1 < wo.heap.size + 2; omega) _
            | true =>
              have hsm : sameS up nm = (up.toList == nm.toList) := rfl
              cases hE : (up.toList == nm.toList) with
              | true =>
                have HKt := Lib.hid (show keepP (prs l) (q, nm) = false by rw [HKp.out, hsm, hE]; rfl)
                have HNq := Lib.hid (show N = (ps.take (j + 1)).filter (fun p => keepP (prs l) (p, nm)) by rw [HFT.out, ← HNe.out, if_neg (by rw [HKt.out]; decide), List.append_nil])
                clear hsm
                go_wp2_with fail
                refine HL.out.mono ?_
                rintro e w4 ⟨rfl, rfl⟩
                go_wp2
                exact ⟨⟨j + 1, by omega, by go_num, ax, cx, N, HNq.out, Hrow.out, Hownx.out, Hbq.out⟩, by simp [intOf]; omega⟩
              | false =>
                have HKt := Lib.hid (show keepP (prs l) (q, nm) = true by rw [HKp.out, hsm, hE]; rfl)
                clear hsm
                go_wp2_with fail
                refine HL.out.mono ?_
                rintro e w4 ⟨rfl, rfl⟩
                go_upto_region 14 with (fail)
                obtain ⟨i0, hi, hz0, hz1, hz2⟩ := info_parts Try.stringInfo
                have Hi := Lib.hid (And.intro hi (And.intro hz0 (And.intro hz1 hz2)))
                clear hi hz0 hz1 hz2
                have HNq := Lib.hid (show N ++ [q] = (ps.take (j + 1)).filter (fun p => keepP (prs l) (p, nm)) by rw [HFT.out, ← HNe.out, if_pos HKt.out])
                go_wp2_with (at_builtin; refine wpList_append_own _ rfl _ _ 53 rfl (wo.heap.size + 2) 9 i0 _ 1 16 Try.underlying53 Hi.out.1 Hi.out.2.1 Hi.out.2.2.1 Hi.out.2.2.2 rfl (by decide) _ _ _ rfl (Hownx.out.alloc _) ⟨wr.heap.size, 0, none⟩ 1 1 [.string q] rfl rfl (World.news_of_block (cs := #[.string q]) (t := 9) (fr := (0, 0)) (heap_alloc_new _ _)) ?aq2 ?aq3 ?aq4 ?aq5 ?_)
                case aq2 => simp [Value.oneCell']
                case aq3 => unfold maxLen; omega
                case aq4 => omega
                case aq5 => (try simp); omega
                intro v2 w2 hown2 hgrow _
                have hown2' := hown2
                obtain ⟨ax2, cx2, rfl, -, -⟩ := own_shape hown2'
                have Hown2 := Lib.hid hown2
                have hrow2 := (hgrow.block (wo.heap.size + 1) (by simp; omega) (fun e => by have := (ownsRow_block Hownx.out _ e.symm).1; omega)).trans ((Below.heap_alloc wr _ _ (by omega)).trans Hrow.out)
                have Hrow2 := Lib.hid hrow2
                have y2 := cell_of_row w2 _ 1 _ _ _ hrow2
                have fr2 : w2.frozen? ⟨wo.heap.size + 1, 1, none⟩ = false := by simp [World.frozen?, hrow2]
                have Hb2 := Lib.hid (((Hbq.out.alloc (by omega) (Obj.cells #[.string q] 9)).grown hgrow (by simp; omega) (fun g e => by have := (ownsRow_block Hownx.out _ e).1; omega)))
                clear hown2 hown2' hgrow hrow2 y0 y1
                go_wp2
                refine ⟨⟨j + 1, by omega, by go_num, ax2, cx2, N ++ [q], HNq.out, ?_, ?_, Hb2.out.setCell (p := ⟨wo.heap.size + 1, 1, none⟩) (Nat.le_refl _) _⟩, by simp [intOf]; omega⟩
                · rw [List.length_append]
                  exact row_set Hrow2.out _
                · rw [List.length_append, List.map_append]
                  exact ownsRow_setCell_below Hown2.out (a := ⟨wo.heap.size + 1, 1, none⟩) (by show wo.heap.size + 1 < wo.heap.size + 2; omega) _
          · have hjp : ps.take j = ps := List.take_of_length_le (by omega)
            have HNf := Lib.hid (show N = ps.filter (fun p => keepP (prs l) (p, nm)) by rw [HNe.out, hjp])
            clear hjp
            by_cases hN0 : N.length = 0
            · have hgt : ¬ (0 : Int) < (N.length : Int) := by omega
              have HR := Lib.hid (Hsk.out (by rw [← HNf.out]; exact List.length_eq_zero_iff.1 hN0))
              clear hN0
              go_wp2
              exact ⟨⟨k + 1, by omega, by go_num, R, ownsRow_below Hown.out Hwq.out, Hrd.out.below Hwq.out, HR.out, Hb.out.trans (Hwq.out.mono Hb.out.size)⟩, by simp [intOf]; omega⟩
            · have hgt : (0 : Int) < (N.length : Int) := by omega
              obtain ⟨g, rfl, hg2, hg3⟩ : ∃ g, ax = some ⟨g, 0, none⟩ ∧ wo.heap.size + 2 ≤ g ∧ g < wr.heap.size := by
                rcases Hownx.out.2 with ⟨-, h2⟩ | ⟨g, cap', cur, hv, hg, hhg, -⟩
                · exact absurd h2 hN0
                · simp only [Value.slice.injEq] at hv
                  exact ⟨g, hv.1, hg, (Array.getElem?_eq_some_iff.1 hhg).1⟩
              have HS := Lib.hid (sortD_calls (wo.heap.size + 2) g cx N wr Hownx.out (by omega))
              have hN0' : 0 < N.length := by omega
              clear hN0
              go_wp2_with fail
              refine HS.out.mono ?_
              rintro e w5 ⟨rfl, hgr, S, hpS, hsS, hSl, hown5⟩
              have hrow5 := (hgr.block (wo.heap.size + 1) (by omega) (fun e => by cases e; omega)).trans Hrow.out
              have Hw5 := Lib.hid (Hwq.out.grown hgr Hwq.out.size (fun k e => by cases e; omega))
              have hw5 := Hw5.out.size
              have hg5 : g < w5.heap.size := Nat.lt_of_lt_of_le hg3 hgr.size
              have Ho5 := Lib.hid (ownsRow_below Hown.out Hw5.out)
              clear y0 y1
              have y0 := cell_of_row w5 _ 0 _ _ _ hrow5
              have y1 := cell_of_row w5 _ 1 _ _ _ hrow5
              have Hown5 := Lib.hid hown5
              have HpS := Lib.hid hpS
              have HsS := Lib.hid hsS
              have HSl := Lib.hid hSl
              clear hown5 hpS hsS hSl hgr hrow5
              obtain ⟨i0, hi, hz0, hz1, hz2⟩ := info_parts Try.zoneInfo
              have Hi := Lib.hid (And.intro hi (And.intro hz0 (And.intro hz1 hz2)))
              clear hi hz0 hz1 hz2
              go_wp2_with (at_builtin; refine wpList_append_lies _ rfl _ _ 49 rfl w1.heap.size 62 i0 _ 2 40 Try.underlying49 Hi.out.1 Hi.out.2.1 Hi.out.2.2.1 Hi.out.2.2.2 rfl (by decide) _ _ _ rfl (Ho5.out.alloc _) ⟨w5.heap.size, 0, none⟩ 1 1 [.string nm, .slice (some ⟨g, 0, none⟩) N.length cx] rfl rfl (World.news_of_block (cs := #[.string nm, .slice (some ⟨g, 0, none⟩) N.length cx]) (t := 62) (fr := (0, 0)) (heap_alloc_new _ _)) ?bq2 (by decide) ?bq3 ?bq4 ?bq5 _ rfl ?_)
              case bq2 => simp [Value.oneCell']
              case bq3 => unfold maxLen; omega
              case bq4 => omega
              case bq5 => have := Hb.out.size; (try simp); omega
              intro gg capg w6 hown6 hgrow6 hat6 hlt6
              have Hown6 := Lib.hid hown6
              have Hgr6 := Lib.hid hgrow6
              have Hat6 := Lib.hid hat6
              clear hown6 hgrow6 hat6 y0 y1
              have HR := Lib.hid (Hmo.out (nm, (some ⟨g, 0, none⟩, N.length, cx), S) rfl (fun e => by have := HSl.out; have e2 : S = [] := e; rw [e2] at this; simp only [List.length_nil] at this; omega) (sorted_strict HpS.out HsS.out (by rw [HNf.out]; exact Hnd.out.filter _)) (HpS.out.trans (by rw [HNf.out])))
              have hbo := Hb.out.size
              have Hbk := Lib.hid (fun k e => ownsRow_block Ho5.out k e)
              have Hbo := Lib.hid (fun k e => ownsRow_block Hown.out k e)
              have Hw6 := Lib.hid (((Below.refl w5.heap.size w5).alloc (Nat.le_refl _) (Obj.cells #[.string nm, .slice (some ⟨g, 0, none⟩) N.length cx] 62)))
              have hb6 := Lib.hid (((Hb.out.trans (Hw5.out.mono hbo)).alloc (by omega) (Obj.cells #[.string nm, .slice (some ⟨g, 0, none⟩) N.length cx] 62)).grown Hgr6.out (by simp; omega) (fun k e => (Hbk.out k e).1))
              have HRd := Lib.hid (((Hrd.out.below Hw5.out).below Hw6.out).grown Hgr6.out)
              have HSt := Lib.hid (show StrsAt w6 (.slice (some ⟨g, 0, none⟩) N.length cx) S from by
                have h1 := Hown5.out
                rw [← HSl.out] at h1
                have h2 := strsAt_own h1 (fun s hs => by
                  have := HpS.out.mem_iff.1 hs
                  rw [HNf.out] at this
                  have := (num_fits (Hnum.out s (List.mem_filter.1 this).1)).2
                  unfold maxLen; omega)
                rw [HSl.out] at h2
                exact strs_keep (h2.below Hw6.out) Hgr6.out.size fun g' hlt e => Hgr6.out.block g' hlt fun e2 => by
                  have e3 : g = g' := Option.some.inj e
                  have := (Hbo.out g' e2.symm).2
                  omega)
              have HA := Lib.hid (show ∀ g', (Value.slice ao R.length co).ownBlock = some g' → g' < wo.heap.size from fun g' e => (Hbo.out g' e).2)
              go_wp2
              refine ⟨⟨k + 1, by omega, by go_num, R ++ [(nm, (some ⟨g, 0, none⟩, N.length, cx), S)], ?_, ?_, HR.out, hb6.out⟩, by simp [intOf]; omega⟩
              · rw [List.length_append, List.flatMap_append]
                exact Hown6.out
              · have hH : (w5.alloc (Obj.cells #[.string nm, .slice (some ⟨g, 0, none⟩) N.length cx] 62)).heap.size = w5.heap.size + 1 := by simp
                intro r hr
                rcases List.mem_append.1 hr with hr | hr
                · obtain ⟨q1, q2, q3⟩ := HRd.out r hr
                  refine ⟨q1, q2, fun g' e => ⟨(q3 g' e).1, fun e2 => ?_⟩⟩
                  have e3 : gg = g' := Option.some.inj e2
                  have hlt := ((Hrd.out r hr).2.2 g' e).1
                  rcases Hat6.out with h | h
                  · exact (q3 g' e).2 (by rw [h, e3])
                  · have h2 : gg = w5.heap.size + 1 := by first | exact h | exact h.trans hH
                    omega
                · simp only [List.mem_singleton] at hr
                  subst hr
                  refine ⟨s0, HSt.out, fun g' e => ?_⟩
                  have e3 : g = g' := Option.some.inj e
                  refine ⟨by have := Hgr6.out.size; have h4 := hH; omega, fun e2 => ?_⟩
                  have e4 : gg = g' := Option.some.inj e2
                  rcases Hat6.out with h | h
                  · have := HA.out gg h; omega
                  · have h2 : gg = w5.heap.size + 1 := by first | exact h | exact h.trans hH
                    omega
      · have hkl : k = l.length := by omega
        subst hkl
        have HS := Lib.hid (sortZn_calls w1.heap.size wo (.slice ao R.length co) R Hown.out Hrd.out Hb.out.size (by omega))
        go_wp2_with fail
        refine HS.out.mono ?_
        rintro e w7 ⟨rfl, hb7, S, hp, hs, hz⟩
        have HM := Lib.hid (HE2.out R S Hraw.out hp hs)
        have Hz := Lib.hid hz
        clear hp hs hz
        go_wp2
        go_ret
        exact ⟨_, S.map zrZn, rfl, Hz.out, HM.out, hb1.trans ((Hb.out.trans hb7).mono hb1.size)⟩
  · have hz : (c != 0) = true := bne_iff_ne.2 h0
    obtain rfl := g1 h0
    have HN := Lib.hid (HN.out w1 h0 hb1)
    go_wp2
    go_ret
    exact HN.out
end Go.Proofs.Ytcfmndhjmlbcoaa
