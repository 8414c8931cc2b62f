/-
  The walk of the reference's prefixes.
-/
import Derived.Test.YtcfmndhjmlbcoaaZonePa
namespace Go.Proofs.Ytcfmndhjmlbcoaa
open Go.RowKit Go.Sort

def PrefTo (l : List Zn) (nm : ByteArray) (w : World) (e : Ending) (w' : World) : Prop := ∃ v N, e = .returned v ∧ w'.ownsRow w.heap.size 9 1 v N.length (N.map Value.string) ∧ PrefOf (prs l) nm (prs l) N ∧ N.length ≤ 4096 ∧ Below w.heap.size w w'
theorem key_pq {l : List Zn} {p : ByteArray} : p ∈ allPr l ↔ ∃ nm, (p, nm) ∈ prs l := by
  rw [← prs_keys, List.mem_map]
  constructor
  · rintro ⟨x, hx, rfl⟩; exact ⟨x.2, hx⟩
  · rintro ⟨nm, h⟩; exact ⟨_, h, rfl⟩
theorem num_pq {l : List Zn} (hc : checkZ l = 0) {p : ByteArray} (hp : p ∈ allPr l) : isNum p = true := by
  obtain ⟨z, hz, hpz⟩ := List.mem_flatMap.1 hp
  exact ((checkZ_ok hc).2.1 z hz).2.2.2 p hpz
theorem pr_fresh2 {l : List Zn} (hc : checkZ l = 0) (i : Nat) (hi : i < l.length) {zn : ByteArray} {ps : List ByteArray} (hy : l[i] = (zn, ps)) (k : Nat) (hk : k < ps.length) (nm : ByteArray) : (ps[k], nm) ∉ prs (l.take i) ++ (ps.take k).map fun p => (p, zn) := by
  have h := pr_fresh hc i hi k (by rw [hy]; exact hk) nm
  simpa only [hy] using h
theorem prefOf_size {l : List Zn} (hc : checkZ l = 0) {nm : ByteArray} {K : List (ByteArray × ByteArray)} {N : List ByteArray} (hK : ∀ x ∈ K, x ∈ prs l) (h : PrefOf (prs l) nm K N) : ∀ s ∈ N, s.size ≤ maxLen := fun s hs => by
  have := num_fits (num_pq hc (key_pq.2 ⟨nm, hK _ ((h.2 s).1 hs).1⟩))
  unfold maxLen; omega
theorem prs_part {l : List Zn} (i : Nat) (hi : i < l.length) (k : Nat) : ∀ x ∈ prs (l.take i) ++ (l[i].2.take k).map fun p => (p, l[i].1), x ∈ prs l := fun x hx => by
  have e : l = l.take i ++ (l[i] :: l.drop (i + 1)) := by rw [← List.drop_eq_getElem_cons hi, List.take_append_drop]
  have h1 : prs l = prs (l.take i) ++ (prs [l[i]] ++ prs (l.drop (i + 1))) := by
    have := congrArg prs e
    rw [this, prs_append]
    congr 1
    exact prs_append [l[i]] _
  rw [h1, prs_one, List.mem_append, List.mem_append]
  rcases List.mem_append.1 hx with hx | hx
  · exact Or.inl hx
  · obtain ⟨p, hp, rfl⟩ := List.mem_map.1 hx
    exact Or.inr (Or.inl (List.mem_map.2 ⟨p, List.mem_of_mem_take hp, rfl⟩))
theorem prs_part2 {l : List Zn} (i : Nat) (hi : i < l.length) {zn : ByteArray} {ps : List ByteArray} (hy : l[i] = (zn, ps)) (k : Nat) : ∀ x ∈ prs (l.take i) ++ (ps.take k).map fun p => (p, zn), x ∈ prs l := by
  have h := prs_part i hi k
  simpa only [hy] using h
theorem prs_take2 {l : List Zn} (i : Nat) (hi : i < l.length) {zn : ByteArray} {ps : List ByteArray} (hy : l[i] = (zn, ps)) : prs (l.take (i + 1)) = prs (l.take i) ++ ps.map fun p => (p, zn) := by
  have h := prs_take l i hi
  simpa only [hy] using h
theorem ownsRow_base {w : World} {b b' : Nat} {e : TypeId} {sz n : Nat} {v : Value} {xs : List Value} (h : w.ownsRow b e sz v n xs) (hb : b' ≤ b) : w.ownsRow b' e sz v n xs := by
  obtain ⟨h1, h2⟩ := h
  refine ⟨h1, ?_⟩
  rcases h2 with h2 | ⟨g, cap, cur, hv, hg, r⟩
  · exact Or.inl h2
  · exact Or.inr ⟨g, cap, cur, hv, Nat.le_trans hb hg, r⟩

set_option maxRecDepth 100000 in
set_option maxHeartbeats 12800000 in
theorem rprefs_calls (v : Value) (l : List Zn) (nm : ByteArray) (w : World) (h : ZnsAt w v l) (hc : checkZ l = 0) (hnm : nm ≠ ByteArray.empty) :
    Calls Try.prog 76 #[v, .string nm] w (PrefTo l nm w) := by
  have hh := h
  have HF := Lib.hid (fun s w1 (hb : Below w.heap.size w w1) => rfind_calls v l s w1 (h.below hb))
  have HKB := Lib.hid (fun p => keepP_best hc (p := p) hnm)
  have Hfr := Lib.hid (fun i hi zn ps (hy : l[i] = (zn, ps)) k hk nm => pr_fresh2 hc i hi hy k hk nm)
  have Hsz := Lib.hid (fun K N hK h => prefOf_size hc (nm := nm) (K := K) (N := N) hK h)
  obtain ⟨hl64, hok, -, -⟩ := checkZ_ok hc
  have Hok := Lib.hid hok
  obtain ⟨av, cap, rfl, hlc, hm, -⟩ := h
  have hm := hm.1
  unfold maxLen at hm
  clear hc hnm hok
  go_enter Try.func76, Try.ntmps76
  go_wp2_with fail
  go_loopw [5, 6] (fun vo x wr => ∃ i : Nat, i ≤ l.length ∧ x = .int .i64 i ∧ ∃ N : List ByteArray, wr.ownsRow w.heap.size 9 1 vo N.length (N.map Value.string) ∧ PrefOf (prs l) nm (prs (l.take i)) N ∧ N.length ≤ 64 * i ∧ Below w.heap.size w wr) (fun _ x _ => l.length - (intOf x).toNat)
  case atStart => exact ⟨0, Nat.zero_le _, rfl, [], ⟨rfl, Or.inl ⟨rfl, rfl⟩⟩, ⟨List.Pairwise.nil, fun p => by simp [prs]⟩, Nat.zero_le _, Below.refl _ _⟩
  case round =>
    obtain ⟨wo, rfl⟩ : ∃ wo : World, wo = wr := ⟨_, rfl⟩
    obtain ⟨i, hi, rfl, N, hown, hpo, hNl, hb⟩ := hrel
    have Hpo := Lib.hid hpo
    have Hown := Lib.hid hown
    obtain ⟨ao, co, rfl, hco, hcm⟩ := own_shape hown
    clear hpo hown
    by_cases hlt : i < l.length
    · have hzk := Hok.out l[i] (List.getElem_mem hlt)
      have hi0 : (0 : Int) ≤ (i : Int) := Int.natCast_nonneg _
      have hi1 : (i : Int) < (l.length : Int) := by omega
      obtain ⟨zn, ps, hy⟩ : ∃ zn ps, l[i] = (zn, ps) := ⟨_, _, rfl⟩
      have Hy := Lib.hid hy
      have HPT := Lib.hid (prs_take2 i hlt hy)
      have Hfr2 := Lib.hid (fun k hk nm => Hfr.out i hlt zn ps hy k hk nm)
      have Hpt := Lib.hid (fun k => prs_part2 i hlt hy k)
      rw [hy] at hzk
      have hp64 : ps.length ≤ 64 := hzk.2.2.1
      have Hnum := Lib.hid (show ∀ p ∈ ps, isNum p = true from hzk.2.2.2)
      clear hy hzk
      go_wp2_with fail
      go_loopw [5, 7] (fun vo x wq => ∃ k : Nat, k ≤ ps.length ∧ x = .int .i64 k ∧ (k = 0 ∨ zn = nm) ∧ ∃ N : List ByteArray, wq.ownsRow w.heap.size 9 1 vo N.length (N.map Value.string) ∧ PrefOf (prs l) nm (prs (l.take i) ++ (ps.take k).map fun p => (p, zn)) N ∧ N.length ≤ 64 * i + k ∧ Below w.heap.size w wq) (fun _ x _ => ps.length - (intOf x).toNat)
      case atStart => exact ⟨0, Nat.zero_le _, rfl, Or.inl rfl, N, Hown.out, by rw [List.take_zero, List.map_nil, List.append_nil]; exact Hpo.out, hNl, hb⟩
      case round =>
        clear hNl Hpo Hown hb hco hcm
        obtain ⟨k, hk, rfl, hkz, N, hown, hpo, hNl, hb⟩ := hrel
        have Hkz := Lib.hid hkz
        have Hpo := Lib.hid hpo
        have Hown := Lib.hid hown
        obtain ⟨ao, co, rfl, hco, hcm⟩ := own_shape hown
        obtain ⟨av2, cap2, e2, -, -, hx⟩ := hh.below hb
        cases e2
        obtain ⟨b, o, rfl, hBb, hx⟩ := hx (by rintro rfl; cases hlt)
        obtain ⟨⟨c0, s0⟩, sv, c1, hsl⟩ := hx i hlt
        rw [Hy.out] at c0 hsl s0
        dsimp only at c0 hsl s0
        have hs0 := hsl
        obtain ⟨asv, cs, rfl, hsc, hms, -⟩ := hs0
        have hms := hms.1
        unfold maxLen at hms
        clear hx hpo hown hkz
        by_cases hkl : k < ps.length
        · cases hE : (zn.toList == nm.toList) with
          | false =>
            have hne : ¬ zn = nm := fun e => by rw [e] at hE; simp at hE
            obtain rfl : k = 0 := Hkz.out.resolve_right hne
            have hP := Hpo.out
            rw [List.take_zero, List.map_nil, List.append_nil] at hP
            have HP := Lib.hid (prefOf_other (ps := ps) hP hne)
            rw [← HPT.out] at HP
            clear hP hne
            go_wp2
            exact ⟨⟨i + 1, by omega, by go_num, N, Hown.out, HP.out, by omega, hb⟩, by simp [intOf]; omega⟩
          | true =>
            have hzn : zn = nm := (sameS_iff _ _).1 hE
            have Hzn := Lib.hid hzn
            obtain ⟨av4, cap4, e4, -, -, hy⟩ := id hsl
            cases e4
            obtain ⟨b4, o4, rfl, hB4, hy⟩ := hy (by rintro rfl; cases hkl)
            obtain ⟨d0, ds⟩ := hy k hkl
            rw [Nat.mul_one] at d0
            have hk0 : (0 : Int) ≤ (k : Int) := Int.natCast_nonneg _
            have hk1 : (k : Int) < (ps.length : Int) := by omega
            have HTk := Lib.hid (show prs (l.take i) ++ (ps.take (k + 1)).map (fun p => (p, zn)) = (prs (l.take i) ++ (ps.take k).map (fun p => (p, zn))) ++ [(ps[k], zn)] by rw [List.take_succ_eq_append_getElem hkl, List.map_append, List.append_assoc]; rfl)
            have Hfq := Lib.hid (Hfr2.out k hkl zn)
            have hnq := num_fits (Hnum.out ps[k] (List.getElem_mem hkl))
            have HptK := Lib.hid (Hpt.out k)
            clear hy
            generalize ps[k] = q at *
            generalize prs (l.take i) ++ (ps.take k).map (fun p => (p, zn)) = K at *
            obtain ⟨hq1, hq2⟩ := hnq
            have hsub : (q.size : Int) - 1 = ((q.size - 1 : Nat) : Int) := by omega
            have HKq := Lib.hid (HKB.out q)
            have HFq := Lib.hid (HF.out (q.extract 0 (q.size - 1)) wr hb)
            obtain ⟨bst, hbst⟩ : ∃ bst, bst = (bestP (q.extract 0 (q.size - 1)) (prs l)).1 := ⟨_, rfl⟩
            rw [← hbst] at HKq HFq
            clear hbst
            have hsm : sameS bst nm = (bst.toList == nm.toList) := rfl
            have HN := Lib.hid (Hsz.out K N HptK.out Hpo.out)
            have HTn := Lib.hid (show K ++ [(q, nm)] = prs (l.take i) ++ (ps.take (k + 1)).map (fun p => (p, zn)) by rw [HTk.out, hzn])
            have HTn := Lib.hid (show K ++ [(q, nm)] = prs (l.take i) ++ (ps.take (k + 1)).map (fun p => (p, zn)) by rw [HTk.out, hzn])
            have HTn := Lib.hid (show K ++ [(q, nm)] = prs (l.take i) ++ (ps.take (k + 1)).map (fun p => (p, zn)) by rw [HTk.out, hzn])
            have HTn := Lib.hid (show K ++ [(q, nm)] = prs (l.take i) ++ (ps.take (k + 1)).map (fun p => (p, zn)) by rw [HTk.out, hzn])
            have HTn := Lib.hid (show K ++ [(q, nm)] = prs (l.take i) ++ (ps.take (k + 1)).map (fun p => (p, zn)) by rw [HTk.out, hzn])
            have HTn := Lib.hid (show K ++ [(q, nm)] = prs (l.take i) ++ (ps.take (k + 1)).map (fun p => (p, zn)) by rw [HTk.out, hzn])
            have HTn := Lib.hid (show K ++ [(q, nm)] = prs (l.take i) ++ (ps.take (k + 1)).map (fun p => (p, zn)) by rw [HTk.out, hzn])
            cases hK : (bst.toList == nm.toList) with
            | true =>
              have HP := Lib.hid (prefOf_skip (q := q) Hpo.out (by rw [HKq.out, hsm, hK]; rfl))
              rw [HTn.out] at HP
              clear hsm hzn
              go_wp2_with fail
              refine HFq.out.mono ?_
              rintro e w4 ⟨rfl, rfl⟩
              go_wp2
              exact ⟨⟨k + 1, by omega, by go_num, Or.inr Hzn.out, N, Hown.out, HP.out, by omega, hb⟩, by simp [intOf]; omega⟩
            | false =>
              have HKt := Lib.hid (show keepP (prs l) (q, nm) = true by rw [HKq.out, hsm, hK]; rfl)
              have hcase : (ao = none ∧ N = [] ∧ co = 0) ∨ ∃ g, ao = some ⟨g, 0, none⟩ := by
                rcases Hown.out.2 with ⟨h1, h2⟩ | ⟨g, cap', cur, hv, -⟩
                · simp only [Value.slice.injEq] at h1
                  exact Or.inl ⟨h1.1, List.length_eq_zero_iff.1 h2, h1.2.2⟩
                · simp only [Value.slice.injEq] at hv
                  exact Or.inr ⟨g, hv.1⟩
              clear hsm hzn
              go_wp2_with fail
              refine HFq.out.mono ?_
              rintro e w4 ⟨rfl, rfl⟩
              go_wp2_with fail
              go_loop [9] (fun x => ∃ j : Nat, j ≤ N.length ∧ x = .int .i64 j ∧ ∀ m (hm : m < N.length), j ≤ m → ltD q N[m]) (fun x => (intOf x).toNat)
              case atStart => exact ⟨N.length, Nat.le_refl _, rfl, fun m hm h => by omega⟩
              case round =>
                obtain ⟨j, hj, rfl, hgt⟩ := hrel
                have Hgt := Lib.hid hgt
                clear hgt
                rcases hcase with ⟨rfl, hN0, rfl⟩ | ⟨g, rfl⟩
                · have hNl0 : N.length ≤ 0 := by rw [hN0]; exact Nat.le_refl _
                  have hjn : ¬ (0 : Int) < (j : Int) := by omega
                  have hjc : (j : Int) ≤ ((0 : Nat) : Int) := by omega
                  have hjN : (j : Int) ≤ (N.length : Int) := by omega
                  have HJ := Lib.hid (show 0 < j → ¬ ltD q (N.getD (j - 1) ByteArray.empty) from fun h => by omega)
                  clear hN0
                  have Ht := Lib.hid (strs_take_own Hown.out HN.out j hj)
                  have Hd := Lib.hid (show StrsAt wr (.slice none (N.length - j) 0) (N.drop j) by
                    have h := strs_drop_own Hown.out HN.out j hj
                    simpa using h)
                  obtain ⟨P, hP0⟩ : ∃ P, P = N.take j := ⟨_, rfl⟩
                  obtain ⟨D, hD0⟩ : ∃ D, D = N.drop j := ⟨_, rfl⟩
                  rw [← hP0] at Ht
                  rw [← hD0] at Hd
                  have hlt1 : P.length ≤ N.length := by rw [hP0, List.length_take]; omega
                  have hld1 : D.length ≤ N.length := by rw [hD0, List.length_drop]; omega
                  have HP0 := Lib.hid hP0
                  have HD0 := Lib.hid hD0
                  have hbs := hb.size
                  clear hP0 hD0
                  go_wp2_with (at_builtin; refine append_strs rfl _ _ rfl wr.heap.size (Nat.le_refl _) _ _ [] P rfl rfl ⟨rfl, Or.inl ⟨rfl, rfl⟩⟩ ?hX1 ?hl1 ?_)
                  case hX1 => exact Ht.out
                  case hl1 => first | omega | (simp; omega)
                  intro P5 hP5 v5 w5 own5 hb5
                  obtain rfl : P = P5 := hP5.out.symm
                  clear hP5
                  have Hb5 := Lib.hid hb5
                  have Own5 := Lib.hid own5
                  have hbs5 := hb5.size
                  obtain ⟨a5, c5, rfl, hc5, hm5⟩ := own_shape own5
                  clear own5 hb5
                  obtain ⟨i0, hi2, hz0, hz1, hz2⟩ := info_parts Try.stringInfo
                  have Hi := Lib.hid (And.intro hi2 (And.intro hz0 (And.intro hz1 hz2)))
                  clear hi2 hz0 hz1 hz2
                  go_wp2_with (at_builtin; refine wpList_append_own _ rfl _ _ 53 rfl wr.heap.size 9 i0 _ 1 16 Try.underlying53 Hi.out.1 Hi.out.2.1 Hi.out.2.2.1 Hi.out.2.2.2 rfl (by decide) _ _ _ rfl (Own5.out.alloc _) ⟨w5.heap.size, 0, none⟩ 1 1 [.string q] rfl rfl (World.news_of_block (cs := #[.string q]) (t := 9) (fr := (0, 0)) (heap_alloc_new _ _)) ?aq2 ?aq3 ?aq4 ?aq5 ?_)
                  case aq2 => simp [Value.oneCell']
                  case aq3 => unfold maxLen; omega
                  case aq4 => omega
                  case aq5 => (try simp); omega
                  intro v6 w6 own6 hgrow6 _
                  have Hb6 := Lib.hid ((Hb5.out.alloc hbs5 (Obj.cells #[.string q] 9)).grown hgrow6 (by simp; omega) (fun g hg => (ownsRow_block Own5.out g hg).1))
                  have hbs6 := Hb6.out.size
                  obtain ⟨M, hM⟩ : ∃ M, M = P ++ [q] := ⟨_, rfl⟩
                  have hMl : M.length = P.length + 1 := by rw [hM, List.length_append]; rfl
                  have Own6 := Lib.hid (show w6.ownsRow wr.heap.size 9 1 v6 M.length (M.map Value.string) by rw [hMl, hM, List.map_append]; exact own6)
                  have hMl2 : M.length ≤ N.length + 1 := by omega
                  have HM := Lib.hid hM
                  have Hd6 := Lib.hid (Hd.out.below (Hb6.out))
                  obtain ⟨a6, c6, rfl, hc6, hm6⟩ := own_shape Own6.out
                  clear own6 hgrow6 hM hMl
                  go_wp2_with (at_builtin; refine append_strs rfl _ _ rfl wr.heap.size ?hs3 _ _ M D rfl rfl Own6.out ?hX3 ?hl3 ?_)
                  case hs3 => exact hbs6
                  case hX3 => exact Hd6.out
                  case hl3 => omega
                  intro R hR v7 w7 own7 hb7
                  have hR := hR.out
                  have Hb7 := Lib.hid (hb.trans ((Hb6.out.trans hb7).mono hbs))
                  have Own7 := Lib.hid (ownsRow_base own7 hbs)
                  have HP := Lib.hid (prefOf_ins Hpo.out HKt.out (by rw [← Hzn.out]; exact Hfq.out) j hj Hgt.out HJ.out)
                  rw [HTn.out, ← HP0.out, ← HD0.out, ← HM.out] at HP
                  rw [← hR] at HP
                  have hMl3 : R.length = N.length + 1 := by rw [hR, HM.out, HP0.out, HD0.out, List.length_append, List.length_append, List.length_take, List.length_drop]; simp only [List.length_cons, List.length_nil]; omega
                  have hRl : R.length ≤ 64 * i + (k + 1) := by omega
                  clear own7 hb7 hMl3
                  go_wp2
                  exact ⟨⟨k + 1, by omega, by go_num, Or.inr Hzn.out, R, Own7.out, HP.out, hRl, Hb7.out⟩, by simp [intOf]; omega⟩
                · have hjc : (j : Int) ≤ (co : Int) := by omega
                  have hjN : (j : Int) ≤ (N.length : Int) := by omega
                  by_cases hj0 : 0 < j
                  · have hjp : (0 : Int) < (j : Int) := by omega
                    have hcell := Hown.out.cellAt (j - 1) (by omega)
                    have hgd := getD_lt (S := N) (d := ByteArray.empty) (j - 1) (by omega)
                    rw [List.getElem?_map, List.getElem?_eq_getElem (by omega), ← hgd] at hcell
                    have hjs : (j : Int) - 1 = ((j - 1 : Nat) : Int) := by omega
                    have hj1 : (0 : Int) ≤ ((j - 1 : Nat) : Int) := Int.natCast_nonneg _
                    have hj2 : ((j - 1 : Nat) : Int) < (N.length : Int) := by omega
                    have Hgd := Lib.hid hgd
                    clear hgd
                    generalize hx : N.getD (j - 1) ByteArray.empty = x at *
                    have hcell : wr.cell? ⟨g, j - 1, none⟩ = some (.string x) := hcell
                    have HCm := Lib.hid (rcompare_calls x q wr)
                    by_cases hlx : ltD q x
                    · have hpos : (0 : Int) < cmpD x q := (cmpD_pos _ _).2 hlx
                      have HG := Lib.hid (show ∀ m (hm : m < N.length), j - 1 ≤ m → ltD q N[m] from fun m hm h => by
                        by_cases e : m = j - 1
                        · subst e
                          have := Hgd.out
                          rw [← this]; exact hlx
                        · exact Hgt.out m hm (by omega))
                      clear hlx hx
                      go_wp2_with fail
                      refine HCm.out.mono ?_
                      rintro e w5 ⟨rfl, rfl⟩
                      go_wp2
                      exact ⟨⟨j - 1, by omega, by go_num, HG.out⟩, by simp [intOf]; omega⟩
                    · have hpos : ¬ (0 : Int) < cmpD x q := fun h => hlx ((cmpD_pos _ _).1 h)
                      have HJ := Lib.hid (show 0 < j → ¬ ltD q (N.getD (j - 1) ByteArray.empty) from fun _ => by rw [hx]; exact hlx)
                      clear hlx hx
                      go_wp2_with fail
                      refine HCm.out.mono ?_
                      rintro e w5 ⟨rfl, rfl⟩
                      by_cases hcj : co = j
                      · subst hcj
                        have Ht := Lib.hid (strs_take_own Hown.out HN.out co hj)
                        have Hd := Lib.hid (show StrsAt wr (.slice (some ⟨g, 0, none⟩) 0 0) (N.drop co) by
                          have h := strs_drop_own Hown.out HN.out co hj
                          rwa [if_pos rfl, Nat.sub_self, show N.length - co = 0 by omega] at h)
                        obtain ⟨P, hP0⟩ : ∃ P, P = N.take co := ⟨_, rfl⟩
                        obtain ⟨D, hD0⟩ : ∃ D, D = N.drop co := ⟨_, rfl⟩
                        rw [← hP0] at Ht
                        rw [← hD0] at Hd
                        have hlt1 : P.length ≤ N.length := by rw [hP0, List.length_take]; omega
                        have hld1 : D.length ≤ N.length := by rw [hD0, List.length_drop]; omega
                        have HP0 := Lib.hid hP0
                        have HD0 := Lib.hid hD0
                        have hbs := hb.size
                        clear hP0 hD0
                        go_wp2_with (at_builtin; refine append_strs rfl _ _ rfl wr.heap.size (Nat.le_refl _) _ _ [] P rfl rfl ⟨rfl, Or.inl ⟨rfl, rfl⟩⟩ ?hX1 ?hl1 ?_)
                        case hX1 => exact Ht.out
                        case hl1 => first | omega | (simp; omega)
                        intro P5 hP5 v5 w5 own5 hb5
                        obtain rfl : P = P5 := hP5.out.symm
                        clear hP5
                        have Hb5 := Lib.hid hb5
                        have Own5 := Lib.hid own5
                        have hbs5 := hb5.size
                        obtain ⟨a5, c5, rfl, hc5, hm5⟩ := own_shape own5
                        clear own5 hb5
                        obtain ⟨i0, hi2, hz0, hz1, hz2⟩ := info_parts Try.stringInfo
                        have Hi := Lib.hid (And.intro hi2 (And.intro hz0 (And.intro hz1 hz2)))
                        clear hi2 hz0 hz1 hz2
                        go_wp2_with (at_builtin; refine wpList_append_own _ rfl _ _ 53 rfl wr.heap.size 9 i0 _ 1 16 Try.underlying53 Hi.out.1 Hi.out.2.1 Hi.out.2.2.1 Hi.out.2.2.2 rfl (by decide) _ _ _ rfl (Own5.out.alloc _) ⟨w5.heap.size, 0, none⟩ 1 1 [.string q] rfl rfl (World.news_of_block (cs := #[.string q]) (t := 9) (fr := (0, 0)) (heap_alloc_new _ _)) ?aq2 ?aq3 ?aq4 ?aq5 ?_)
                        case aq2 => simp [Value.oneCell']
                        case aq3 => unfold maxLen; omega
                        case aq4 => omega
                        case aq5 => (try simp); omega
                        intro v6 w6 own6 hgrow6 _
                        have Hb6 := Lib.hid ((Hb5.out.alloc hbs5 (Obj.cells #[.string q] 9)).grown hgrow6 (by simp; omega) (fun g hg => (ownsRow_block Own5.out g hg).1))
                        have hbs6 := Hb6.out.size
                        obtain ⟨M, hM⟩ : ∃ M, M = P ++ [q] := ⟨_, rfl⟩
                        have hMl : M.length = P.length + 1 := by rw [hM, List.length_append]; rfl
                        have Own6 := Lib.hid (show w6.ownsRow wr.heap.size 9 1 v6 M.length (M.map Value.string) by rw [hMl, hM, List.map_append]; exact own6)
                        have hMl2 : M.length ≤ N.length + 1 := by omega
                        have HM := Lib.hid hM
                        have Hd6 := Lib.hid (Hd.out.below (Hb6.out))
                        obtain ⟨a6, c6, rfl, hc6, hm6⟩ := own_shape Own6.out
                        clear own6 hgrow6 hM hMl
                        go_wp2_with (at_builtin; refine append_strs rfl _ _ rfl wr.heap.size ?hs3 _ _ M D rfl rfl Own6.out ?hX3 ?hl3 ?_)
                        case hs3 => exact hbs6
                        case hX3 => exact Hd6.out
                        case hl3 => omega
                        intro R hR v7 w7 own7 hb7
                        have hR := hR.out
                        have Hb7 := Lib.hid (hb.trans ((Hb6.out.trans hb7).mono hbs))
                        have Own7 := Lib.hid (ownsRow_base own7 hbs)
                        have HP := Lib.hid (prefOf_ins Hpo.out HKt.out (by rw [← Hzn.out]; exact Hfq.out) co hj Hgt.out HJ.out)
                        rw [HTn.out, ← HP0.out, ← HD0.out, ← HM.out] at HP
                        rw [← hR] at HP
                        have hMl3 : R.length = N.length + 1 := by rw [hR, HM.out, HP0.out, HD0.out, List.length_append, List.length_append, List.length_take, List.length_drop]; simp only [List.length_cons, List.length_nil]; omega
                        have hRl : R.length ≤ 64 * i + (k + 1) := by omega
                        clear own7 hb7 hMl3
                        go_wp2
                        exact ⟨⟨k + 1, by omega, by go_num, Or.inr Hzn.out, R, Own7.out, HP.out, hRl, Hb7.out⟩, by simp [intOf]; omega⟩
                      · have hcj2 : j ≠ co := fun e => hcj e.symm
                        have Ht := Lib.hid (strs_take_own Hown.out HN.out j hj)
                        have Hd := Lib.hid (show StrsAt wr (.slice (some ⟨g, j, none⟩) (N.length - j) (co - j)) (N.drop j) by
                          have h := strs_drop_own Hown.out HN.out j hj
                          rwa [if_neg hcj, Option.map_some, addr_add] at h)
                        obtain ⟨P, hP0⟩ : ∃ P, P = N.take j := ⟨_, rfl⟩
                        obtain ⟨D, hD0⟩ : ∃ D, D = N.drop j := ⟨_, rfl⟩
                        rw [← hP0] at Ht
                        rw [← hD0] at Hd
                        have hlt1 : P.length ≤ N.length := by rw [hP0, List.length_take]; omega
                        have hld1 : D.length ≤ N.length := by rw [hD0, List.length_drop]; omega
                        have HP0 := Lib.hid hP0
                        have HD0 := Lib.hid hD0
                        have hbs := hb.size
                        clear hP0 hD0
                        go_wp2_with (at_builtin; refine append_strs rfl _ _ rfl wr.heap.size (Nat.le_refl _) _ _ [] P rfl rfl ⟨rfl, Or.inl ⟨rfl, rfl⟩⟩ ?hX1 ?hl1 ?_)
                        case hX1 => exact Ht.out
                        case hl1 => first | omega | (simp; omega)
                        intro P5 hP5 v5 w5 own5 hb5
                        obtain rfl : P = P5 := hP5.out.symm
                        clear hP5
                        have Hb5 := Lib.hid hb5
                        have Own5 := Lib.hid own5
                        have hbs5 := hb5.size
                        obtain ⟨a5, c5, rfl, hc5, hm5⟩ := own_shape own5
                        clear own5 hb5
                        obtain ⟨i0, hi2, hz0, hz1, hz2⟩ := info_parts Try.stringInfo
                        have Hi := Lib.hid (And.intro hi2 (And.intro hz0 (And.intro hz1 hz2)))
                        clear hi2 hz0 hz1 hz2
                        go_wp2_with (at_builtin; refine wpList_append_own _ rfl _ _ 53 rfl wr.heap.size 9 i0 _ 1 16 Try.underlying53 Hi.out.1 Hi.out.2.1 Hi.out.2.2.1 Hi.out.2.2.2 rfl (by decide) _ _ _ rfl (Own5.out.alloc _) ⟨w5.heap.size, 0, none⟩ 1 1 [.string q] rfl rfl (World.news_of_block (cs := #[.string q]) (t := 9) (fr := (0, 0)) (heap_alloc_new _ _)) ?aq2 ?aq3 ?aq4 ?aq5 ?_)
                        case aq2 => simp [Value.oneCell']
                        case aq3 => unfold maxLen; omega
                        case aq4 => omega
                        case aq5 => (try simp); omega
                        intro v6 w6 own6 hgrow6 _
                        have Hb6 := Lib.hid ((Hb5.out.alloc hbs5 (Obj.cells #[.string q] 9)).grown hgrow6 (by simp; omega) (fun g hg => (ownsRow_block Own5.out g hg).1))
                        have hbs6 := Hb6.out.size
                        obtain ⟨M, hM⟩ : ∃ M, M = P ++ [q] := ⟨_, rfl⟩
                        have hMl : M.length = P.length + 1 := by rw [hM, List.length_append]; rfl
                        have Own6 := Lib.hid (show w6.ownsRow wr.heap.size 9 1 v6 M.length (M.map Value.string) by rw [hMl, hM, List.map_append]; exact own6)
                        have hMl2 : M.length ≤ N.length + 1 := by omega
                        have HM := Lib.hid hM
                        have Hd6 := Lib.hid (Hd.out.below (Hb6.out))
                        obtain ⟨a6, c6, rfl, hc6, hm6⟩ := own_shape Own6.out
                        clear own6 hgrow6 hM hMl
                        go_wp2_with (at_builtin; refine append_strs rfl _ _ rfl wr.heap.size ?hs3 _ _ M D rfl rfl Own6.out ?hX3 ?hl3 ?_)
                        case hs3 => exact hbs6
                        case hX3 => exact Hd6.out
                        case hl3 => omega
                        intro R hR v7 w7 own7 hb7
                        have hR := hR.out
                        have Hb7 := Lib.hid (hb.trans ((Hb6.out.trans hb7).mono hbs))
                        have Own7 := Lib.hid (ownsRow_base own7 hbs)
                        have HP := Lib.hid (prefOf_ins Hpo.out HKt.out (by rw [← Hzn.out]; exact Hfq.out) j hj Hgt.out HJ.out)
                        rw [HTn.out, ← HP0.out, ← HD0.out, ← HM.out] at HP
                        rw [← hR] at HP
                        have hMl3 : R.length = N.length + 1 := by rw [hR, HM.out, HP0.out, HD0.out, List.length_append, List.length_append, List.length_take, List.length_drop]; simp only [List.length_cons, List.length_nil]; omega
                        have hRl : R.length ≤ 64 * i + (k + 1) := by omega
                        clear own7 hb7 hMl3
                        go_wp2
                        exact ⟨⟨k + 1, by omega, by go_num, Or.inr Hzn.out, R, Own7.out, HP.out, hRl, Hb7.out⟩, by simp [intOf]; omega⟩
                  · have hjn : ¬ (0 : Int) < (j : Int) := by omega
                    have HJ := Lib.hid (show 0 < j → ¬ ltD q (N.getD (j - 1) ByteArray.empty) from fun h => absurd h hj0)
                    by_cases hcj : co = j
                    · subst hcj
                      have Ht := Lib.hid (strs_take_own Hown.out HN.out co hj)
                      have Hd := Lib.hid (show StrsAt wr (.slice (some ⟨g, 0, none⟩) 0 0) (N.drop co) by
                        have h := strs_drop_own Hown.out HN.out co hj
                        rwa [if_pos rfl, Nat.sub_self, show N.length - co = 0 by omega] at h)
                      obtain ⟨P, hP0⟩ : ∃ P, P = N.take co := ⟨_, rfl⟩
                      obtain ⟨D, hD0⟩ : ∃ D, D = N.drop co := ⟨_, rfl⟩
                      rw [← hP0] at Ht
                      rw [← hD0] at Hd
                      have hlt1 : P.length ≤ N.length := by rw [hP0, List.length_take]; omega
                      have hld1 : D.length ≤ N.length := by rw [hD0, List.length_drop]; omega
                      have HP0 := Lib.hid hP0
                      have HD0 := Lib.hid hD0
                      have hbs := hb.size
                      clear hP0 hD0
                      go_wp2_with (at_builtin; refine append_strs rfl _ _ rfl wr.heap.size (Nat.le_refl _) _ _ [] P rfl rfl ⟨rfl, Or.inl ⟨rfl, rfl⟩⟩ ?hX1 ?hl1 ?_)
                      case hX1 => exact Ht.out
                      case hl1 => first | omega | (simp; omega)
                      intro P5 hP5 v5 w5 own5 hb5
                      obtain rfl : P = P5 := hP5.out.symm
                      clear hP5
                      have Hb5 := Lib.hid hb5
                      have Own5 := Lib.hid own5
                      have hbs5 := hb5.size
                      obtain ⟨a5, c5, rfl, hc5, hm5⟩ := own_shape own5
                      clear own5 hb5
                      obtain ⟨i0, hi2, hz0, hz1, hz2⟩ := info_parts Try.stringInfo
                      have Hi := Lib.hid (And.intro hi2 (And.intro hz0 (And.intro hz1 hz2)))
                      clear hi2 hz0 hz1 hz2
                      go_wp2_with (at_builtin; refine wpList_append_own _ rfl _ _ 53 rfl wr.heap.size 9 i0 _ 1 16 Try.underlying53 Hi.out.1 Hi.out.2.1 Hi.out.2.2.1 Hi.out.2.2.2 rfl (by decide) _ _ _ rfl (Own5.out.alloc _) ⟨w5.heap.size, 0, none⟩ 1 1 [.string q] rfl rfl (World.news_of_block (cs := #[.string q]) (t := 9) (fr := (0, 0)) (heap_alloc_new _ _)) ?aq2 ?aq3 ?aq4 ?aq5 ?_)
                      case aq2 => simp [Value.oneCell']
                      case aq3 => unfold maxLen; omega
                      case aq4 => omega
                      case aq5 => (try simp); omega
                      intro v6 w6 own6 hgrow6 _
                      have Hb6 := Lib.hid ((Hb5.out.alloc hbs5 (Obj.cells #[.string q] 9)).grown hgrow6 (by simp; omega) (fun g hg => (ownsRow_block Own5.out g hg).1))
                      have hbs6 := Hb6.out.size
                      obtain ⟨M, hM⟩ : ∃ M, M = P ++ [q] := ⟨_, rfl⟩
                      have hMl : M.length = P.length + 1 := by rw [hM, List.length_append]; rfl
                      have Own6 := Lib.hid (show w6.ownsRow wr.heap.size 9 1 v6 M.length (M.map Value.string) by rw [hMl, hM, List.map_append]; exact own6)
                      have hMl2 : M.length ≤ N.length + 1 := by omega
                      have HM := Lib.hid hM
                      have Hd6 := Lib.hid (Hd.out.below (Hb6.out))
                      obtain ⟨a6, c6, rfl, hc6, hm6⟩ := own_shape Own6.out
                      clear own6 hgrow6 hM hMl
                      go_wp2_with (at_builtin; refine append_strs rfl _ _ rfl wr.heap.size ?hs3 _ _ M D rfl rfl Own6.out ?hX3 ?hl3 ?_)
                      case hs3 => exact hbs6
                      case hX3 => exact Hd6.out
                      case hl3 => omega
                      intro R hR v7 w7 own7 hb7
                      have hR := hR.out
                      have Hb7 := Lib.hid (hb.trans ((Hb6.out.trans hb7).mono hbs))
                      have Own7 := Lib.hid (ownsRow_base own7 hbs)
                      have HP := Lib.hid (prefOf_ins Hpo.out HKt.out (by rw [← Hzn.out]; exact Hfq.out) co hj Hgt.out HJ.out)
                      rw [HTn.out, ← HP0.out, ← HD0.out, ← HM.out] at HP
                      rw [← hR] at HP
                      have hMl3 : R.length = N.length + 1 := by rw [hR, HM.out, HP0.out, HD0.out, List.length_append, List.length_append, List.length_take, List.length_drop]; simp only [List.length_cons, List.length_nil]; omega
                      have hRl : R.length ≤ 64 * i + (k + 1) := by omega
                      clear own7 hb7 hMl3
                      go_wp2
                      exact ⟨⟨k + 1, by omega, by go_num, Or.inr Hzn.out, R, Own7.out, HP.out, hRl, Hb7.out⟩, by simp [intOf]; omega⟩
                    · have hcj2 : j ≠ co := fun e => hcj e.symm
                      have Ht := Lib.hid (strs_take_own Hown.out HN.out j hj)
                      have Hd := Lib.hid (show StrsAt wr (.slice (some ⟨g, j, none⟩) (N.length - j) (co - j)) (N.drop j) by
                        have h := strs_drop_own Hown.out HN.out j hj
                        rwa [if_neg hcj, Option.map_some, addr_add] at h)
                      obtain ⟨P, hP0⟩ : ∃ P, P = N.take j := ⟨_, rfl⟩
                      obtain ⟨D, hD0⟩ : ∃ D, D = N.drop j := ⟨_, rfl⟩
                      rw [← hP0] at Ht
                      rw [← hD0] at Hd
                      have hlt1 : P.length ≤ N.length := by rw [hP0, List.length_take]; omega
                      have hld1 : D.length ≤ N.length := by rw [hD0, List.length_drop]; omega
                      have HP0 := Lib.hid hP0
                      have HD0 := Lib.hid hD0
                      have hbs := hb.size
                      clear hP0 hD0
                      go_wp2_with (at_builtin; refine append_strs rfl _ _ rfl wr.heap.size (Nat.le_refl _) _ _ [] P rfl rfl ⟨rfl, Or.inl ⟨rfl, rfl⟩⟩ ?hX1 ?hl1 ?_)
                      case hX1 => exact Ht.out
                      case hl1 => first | omega | (simp; omega)
                      intro P5 hP5 v5 w5 own5 hb5
                      obtain rfl : P = P5 := hP5.out.symm
                      clear hP5
                      have Hb5 := Lib.hid hb5
                      have Own5 := Lib.hid own5
                      have hbs5 := hb5.size
                      obtain ⟨a5, c5, rfl, hc5, hm5⟩ := own_shape own5
                      clear own5 hb5
                      obtain ⟨i0, hi2, hz0, hz1, hz2⟩ := info_parts Try.stringInfo
                      have Hi := Lib.hid (And.intro hi2 (And.intro hz0 (And.intro hz1 hz2)))
                      clear hi2 hz0 hz1 hz2
                      go_wp2_with (at_builtin; refine wpList_append_own _ rfl _ _ 53 rfl wr.heap.size 9 i0 _ 1 16 Try.underlying53 Hi.out.1 Hi.out.2.1 Hi.out.2.2.1 Hi.out.2.2.2 rfl (by decide) _ _ _ rfl (Own5.out.alloc _) ⟨w5.heap.size, 0, none⟩ 1 1 [.string q] rfl rfl (World.news_of_block (cs := #[.string q]) (t := 9) (fr := (0, 0)) (heap_alloc_new _ _)) ?aq2 ?aq3 ?aq4 ?aq5 ?_)
                      case aq2 => simp [Value.oneCell']
                      case aq3 => unfold maxLen; omega
                      case aq4 => omega
                      case aq5 => (try simp); omega
                      intro v6 w6 own6 hgrow6 _
                      have Hb6 := Lib.hid ((Hb5.out.alloc hbs5 (Obj.cells #[.string q] 9)).grown hgrow6 (by simp; omega) (fun g hg => (ownsRow_block Own5.out g hg).1))
                      have hbs6 := Hb6.out.size
                      obtain ⟨M, hM⟩ : ∃ M, M = P ++ [q] := ⟨_, rfl⟩
                      have hMl : M.length = P.length + 1 := by rw [hM, List.length_append]; rfl
                      have Own6 := Lib.hid (show w6.ownsRow wr.heap.size 9 1 v6 M.length (M.map Value.string) by rw [hMl, hM, List.map_append]; exact own6)
                      have hMl2 : M.length ≤ N.length + 1 := by omega
                      have HM := Lib.hid hM
                      have Hd6 := Lib.hid (Hd.out.below (Hb6.out))
                      obtain ⟨a6, c6, rfl, hc6, hm6⟩ := own_shape Own6.out
                      clear own6 hgrow6 hM hMl
                      go_wp2_with (at_builtin; refine append_strs rfl _ _ rfl wr.heap.size ?hs3 _ _ M D rfl rfl Own6.out ?hX3 ?hl3 ?_)
                      case hs3 => exact hbs6
                      case hX3 => exact Hd6.out
                      case hl3 => omega
                      intro R hR v7 w7 own7 hb7
                      have hR := hR.out
                      have Hb7 := Lib.hid (hb.trans ((Hb6.out.trans hb7).mono hbs))
                      have Own7 := Lib.hid (ownsRow_base own7 hbs)
                      have HP := Lib.hid (prefOf_ins Hpo.out HKt.out (by rw [← Hzn.out]; exact Hfq.out) j hj Hgt.out HJ.out)
                      rw [HTn.out, ← HP0.out, ← HD0.out, ← HM.out] at HP
                      rw [← hR] at HP
                      have hMl3 : R.length = N.length + 1 := by rw [hR, HM.out, HP0.out, HD0.out, List.length_append, List.length_append, List.length_take, List.length_drop]; simp only [List.length_cons, List.length_nil]; omega
                      have hRl : R.length ≤ 64 * i + (k + 1) := by omega
                      clear own7 hb7 hMl3
                      go_wp2
                      exact ⟨⟨k + 1, by omega, by go_num, Or.inr Hzn.out, R, Own7.out, HP.out, hRl, Hb7.out⟩, by simp [intOf]; omega⟩
        · have hP := Hpo.out
          rw [List.take_of_length_le (by omega : ps.length ≤ k), ← HPT.out] at hP
          have HP := Lib.hid hP
          clear hP
          go_wp2
          exact ⟨⟨i + 1, by omega, by go_num, N, Hown.out, HP.out, by omega, hb⟩, by simp [intOf]; omega⟩
    · have hP := Hpo.out
      rw [List.take_of_length_le (by omega : l.length ≤ i)] at hP
      have HP := Lib.hid hP
      clear hP
      go_wp2
      go_ret
      exact ⟨_, N, rfl, Hown.out, HP.out, by omega, hb⟩
end Go.Proofs.Ytcfmndhjmlbcoaa
