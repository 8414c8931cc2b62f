/-
  The walk of zones.Names.
-/
import Derived.Test.YtcfmndhjmlbcoaaZoneS
namespace Go.Proofs.Ytcfmndhjmlbcoaa
open Go.RowKit

theorem Try.stringInfo : (Try.prog.info? 9).map (fun i => (i.zero, i.size, i.bytes)) = some (some (.string ⟨#[]⟩), 1, 16) := by kernel_rfl

theorem strsAt_own {w : World} {base : Nat} {e : TypeId} {v : Value} {zs : List ByteArray} (h : w.ownsRow base e 1 v zs.length (zs.map Value.string)) (hz : ∀ s ∈ zs, s.size ≤ maxLen) : StrsAt w v zs := by
  obtain ⟨-, h2⟩ := h
  rcases h2 with ⟨rfl, h0⟩ | ⟨g, cap, cur, rfl, hB, hh, h1, h2, h3, h4⟩
  · obtain rfl : zs = [] := List.length_eq_zero_iff.1 h0
    exact ⟨none, 0, rfl, Nat.le_refl _, ⟨Nat.zero_le _, fun _ => rfl⟩, fun h => absurd rfl h⟩
  · refine ⟨_, cap, rfl, h1, ⟨h2, fun h => by cases h⟩, fun _ => ⟨g, 0, rfl, (Array.getElem?_eq_some_iff.1 hh).1, fun i hi => ⟨?_, hz _ (List.getElem_mem hi)⟩⟩⟩
    rw [Nat.zero_add, Nat.mul_one]
    have e1 : (zs.map Value.string)[i]? = some (Value.string zs[i]) := by simp [hi]
    rw [← h4, List.getElem?_take_of_lt (by omega)] at e1
    simp only [World.cell?, hh, Option.isSome_none, Bool.false_eq_true, if_false]
    simpa using e1

/-- The names of zones, ascending. -/
def namesZ (l : List Zn) : List ByteArray := if checkZ l ≠ 0 then [] else sortT (l.map (·.1))
theorem namesK (l : List Zn) (k : Nat) (h : k < l.length) : (l.take (k + 1)).map (·.1) = (l.take k).map (·.1) ++ [l[k].1] := by
  rw [List.take_succ_eq_append_getElem h, List.map_append]; rfl

def TextsTo (N : List ByteArray) (w : World) (e : Ending) (w' : World) : Prop := ∃ v, e = .returned v ∧ StrsAt w' v N ∧ Below w.heap.size w w'
theorem texts_nil {w w' : World} {N : List ByteArray} (h : N = []) (hb : Below w.heap.size w w') : TextsTo N w (.returned (.slice none 0 0)) w' :=
  ⟨_, rfl, by rw [h]; exact ⟨none, 0, rfl, Nat.le_refl _, ⟨Nat.zero_le _, fun _ => rfl⟩, fun h => absurd rfl h⟩, hb⟩

set_option maxRecDepth 100000 in
set_option maxHeartbeats 6400000 in
theorem znames_calls (v : Value) (l : List Zn) (w : World) (h : ZnsAt w v l) :
    Calls Try.prog 33 #[v] w (TextsTo (namesZ l) w) := by
  have hh := h
  have HC := Lib.hid (zcheck_calls v l w h)
  have HN := Lib.hid (show namesZ l = if checkZ l ≠ 0 then [] else sortT (l.map (·.1)) from rfl)
  have HO := Lib.hid (fun h => (@checkZ_ok l h))
  obtain ⟨av, cap, rfl, hlc, hm, -⟩ := h
  have hm := hm.1
  unfold maxLen at hm
  generalize checkZ l = c at *
  go_enter Try.func33, Try.ntmps33
  go_wp2_with fail
  refine HC.out.mono ?_
  rintro e w1 ⟨rfl, hb1⟩
  by_cases hc : c = 0
  · obtain ⟨hl64, HK, -, -⟩ := HO.out hc
    have HG := Lib.hid (HN.out.trans (if_neg (not_not_intro hc)))
    clear HN
    subst hc
    go_wp2_with fail
    go_loopw [3, 11] (fun v i wr => ∃ k : Nat, k ≤ l.length ∧ i = .int .i64 k ∧ wr.ownsRow w.heap.size 9 1 v ((l.take k).map (·.1)).length (((l.take k).map (·.1)).map Value.string) ∧ Below w.heap.size w wr) (fun _ i _ => l.length - (intOf i).toNat)
    case atStart => exact ⟨0, Nat.zero_le _, rfl, ⟨rfl, Or.inl ⟨rfl, rfl⟩⟩, hb1⟩
    case round =>
      obtain ⟨k, hk, rfl, hown, hb⟩ := hrel
      obtain ⟨ao, co, rfl, hco, hcm⟩ := own_shape hown
      have Hown := Lib.hid hown
      have hNl : ((l.take k).map (·.1)).length = k := by rw [List.length_map, List.length_take]; omega
      clear hown
      by_cases hlt : k < l.length
      · obtain ⟨av2, cap2, e2, -, -, hx⟩ := hh.below hb
        cases e2
        obtain ⟨b, o, rfl, hB, hx⟩ := hx (by rintro rfl; cases hlt)
        obtain ⟨⟨c0, s0⟩, sv, c1, hs⟩ := hx k hlt
        have hk0 : (0 : Int) ≤ (k : Int) := Int.natCast_nonneg _
        have hk1 : (k : Int) < (l.length : Int) := by omega
        have HT := Lib.hid (namesK l k hlt)
        clear hx
        generalize l[k] = y at *
        obtain ⟨nm, ps⟩ := y
        dsimp only at c0 c1 s0 HT hs
        obtain ⟨asv, cs, rfl, -, -, -⟩ := hs
        obtain ⟨N, hN⟩ : ∃ N, N = (l.take k).map (·.1) := ⟨_, rfl⟩
        rw [← hN] at Hown HT hNl hco ⊢
        have hN2 : N.length ≤ 64 := by omega
        clear hN hNl
        obtain ⟨X, hX⟩ : ∃ X, X = wr.alloc (Obj.cells #[Value.string nm, .slice asv ps.length cs] 62) := ⟨_, rfl⟩
        have hbX : Below wr.heap.size wr X := by rw [hX]; exact (Below.refl _ _).alloc (Nat.le_refl _) _
        have hwX := hb.trans (hbX.mono hb.size)
        have rX : X.heap[wr.heap.size]? = some (Obj.cells #[Value.string nm, .slice asv ps.length cs] 62) := by rw [hX]; exact heap_alloc_new _ _
        have x0 := cell_of_row X _ 0 _ _ _ rX
        have HX := Lib.hid hX
        have HownX := Lib.hid (ownsRow_below Hown.out hbX)
        have hxs := hwX.size
        clear hX rX
        obtain ⟨i0, hi, hz0, hz1, hz2⟩ := info_parts Try.stringInfo
        have Hi := Lib.hid (And.intro hi (And.intro hz0 (And.intro hz1 hz2)))
        clear hi hz0 hz1 hz2
        go_upto_region 7 with (fail)
        rw [← HX.out]
        go_wp2_with (at_builtin; refine wpList_append_own _ rfl _ _ 53 rfl w.heap.size 9 i0 _ 1 16 Try.underlying53 Hi.out.1 Hi.out.2.1 Hi.out.2.2.1 Hi.out.2.2.2 rfl (by decide) _ _ _ rfl (HownX.out.alloc _) ⟨X.heap.size, 0, none⟩ 1 1 [.string nm] rfl rfl (World.news_of_block (cs := #[.string nm]) (t := 9) (fr := (0, 0)) (heap_alloc_new _ _)) ?aq2 ?aq3 ?aq4 ?aq5 ?_)
        case aq2 => simp [Value.oneCell']
        case aq3 => unfold maxLen; omega
        case aq4 => omega
        case aq5 => (try simp); omega
        intro v2 w2 hown2 hgrow _
        have hb2 := (hwX.alloc hxs (Obj.cells #[.string nm] 9)).grown hgrow (by simp; omega) (fun g hg => (ownsRow_block HownX.out g hg).1)
        have Hown2 := Lib.hid hown2
        clear hown2 hgrow
        go_wp2
        refine ⟨⟨k + 1, by omega, by go_num, ?_, hb2⟩, by simp [intOf]; omega⟩
        rw [HT.out, List.length_append, List.map_append]
        exact Hown2.out
      · have HE := Lib.hid (show l.take k = l from List.take_of_length_le (by omega))
        have ho := Hown.out
        rw [HE.out] at ho hNl hco ⊢
        have hsz : ∀ s ∈ sortT (l.map (·.1)), s.size ≤ maxLen := fun s hs => by
          obtain ⟨z, hz, rfl⟩ := List.mem_map.1 ((sortT_perm _).mem_iff.1 hs)
          have h := (HK z hz).1
          unfold isName at h
          rw [Bool.and_eq_true, Bool.and_eq_true, decide_eq_true_eq] at h
          unfold maxLen; omega
        have Hsz := Lib.hid hsz
        have hl2 : (l.map (·.1)).length ≤ 64 := by rw [List.length_map]; exact hl64
        clear hsz hNl HE Hown HK HO
        obtain ⟨M, hM⟩ : ∃ M, M = l.map (·.1) := ⟨_, rfl⟩
        rw [← hM] at Hsz HG ho hl2 hco ⊢
        clear hM
        have ho2 := ho.2
        rcases ho2 with ⟨h1, h2⟩ | ⟨g, cap', cur, hv, -⟩
        · simp only [Value.slice.injEq] at h1
          obtain ⟨rfl, -, rfl⟩ := h1
          have hl0 : M = [] := List.length_eq_zero_iff.1 h2
          have HS := Lib.hid (show Calls Try.prog 63 #[.slice none 0 0] wr fun e w' => e = .returned (.tuple #[]) ∧ w' = wr from Go.Proofs.AnyM.slices_Sort_string_none Try.sortTx none 0 wr)
          have HN := Lib.hid (show namesZ l = [] by rw [HG.out, hl0]; exact List.length_eq_zero_iff.1 (sortT_len []))
          rw [h2]
          go_wp2_with fail
          refine HS.out.mono ?_
          rintro e w2 ⟨rfl, rfl⟩
          go_wp2
          go_ret
          exact texts_nil HN.out hb
        · simp only [Value.slice.injEq] at hv
          obtain ⟨rfl, -⟩ := hv
          have HS := Lib.hid (sortT_calls w.heap.size g co M wr ho hb.size (by omega))
          go_wp2_with fail
          refine HS.out.mono ?_
          rintro e w2 ⟨rfl, hb2, ho2⟩
          have Ho2 := Lib.hid ho2
          have hb3 := hb.trans (hb2.mono (Nat.le_refl _))
          clear ho2
          go_wp2
          go_ret
          exact ⟨_, rfl, by rw [HG.out]; exact strsAt_own (by rw [sortT_len]; exact Ho2.out) Hsz.out, hb3⟩
  · have hz : (c != 0) = true := bne_iff_ne.2 hc
    have HN := Lib.hid (HN.out.trans (if_pos hc))
    go_wp2
    go_ret
    exact texts_nil HN.out hb1
end Go.Proofs.Ytcfmndhjmlbcoaa
