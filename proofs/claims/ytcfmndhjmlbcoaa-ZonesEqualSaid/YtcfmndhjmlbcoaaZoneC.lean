/-
  The walks of the reference's earlier, zone and Check of zones.
-/
import Derived.Test.YtcfmndhjmlbcoaaZoneA
import Derived.Test.YtcfmndhjmlbcoaaBandE
namespace Go.Proofs.Ytcfmndhjmlbcoaa
open Go.RowKit

theorem allPr_any (l : List Zn) (k : Nat) (h : k < l.length) (p : ByteArray → Bool) : (allPr (l.take (k + 1))).any p = ((allPr (l.take k)).any p || l[k].2.any p) := by
  rw [allPr_take l k h, List.any_append]

set_option maxRecDepth 100000 in
set_option maxHeartbeats 6400000 in
theorem earlier_calls (v : Value) (l : List Zn) (i k : Nat) (w : World) (h : ZnsAt w v l) (hi : i < l.length) (hk : k < l[i].2.length) :
    Calls Try.prog 96 #[v, .int .i64 i, .int .i64 k] w (BoolTo ((allPr (l.take i) ++ l[i].2.take k).any (fun x => sameS x l[i].2[k])) w) := by
  have hB := h
  obtain ⟨av, cap, rfl, hlc, hm, -⟩ := h
  have hm := hm.1
  unfold maxLen at hm
  obtain ⟨av2, cap2, e2, -, -, hx⟩ := id hB
  cases e2
  obtain ⟨b, o, rfl, hBb, hx⟩ := hx (by rintro rfl; cases hi)
  obtain ⟨-, sv, c1, hs⟩ := hx i hi
  obtain ⟨asv, cs, rfl, hsc, hms, hy⟩ := hs
  obtain ⟨b3, o3, rfl, hB3, hy⟩ := hy (by intro h; rw [h] at hk; cases hk)
  obtain ⟨d0, -⟩ := hy k hk
  rw [Nat.mul_one] at d0
  have hms := hms.1
  unfold maxLen at hms
  have HI := Lib.hid (show ∀ w', Below w.heap.size w w' → w'.cell? ⟨b, o + i * 2 + 1, none⟩ = some (.slice (some ⟨b3, o3, none⟩) l[i].2.length cs) ∧ w'.cell? ⟨b3, o3 + k, none⟩ = some (.string l[i].2[k]) from fun w' h => ⟨(h.cell (p := ⟨b, _, none⟩) hBb).trans c1, (h.cell (p := ⟨b3, _, none⟩) hB3).trans d0⟩)
  have HL := Lib.hid (fun a (ha : a < l.length) => hx a ha)
  have HP := Lib.hid (fun a (ha : a < l.length) p => allPr_any l a ha p)
  have HPz := Lib.hid (show ∀ p, (allPr (l.take 0)).any p = false from fun p => rfl)
  obtain ⟨ps, hps⟩ : ∃ ps, ps = l[i].2 := ⟨_, rfl⟩
  have Hps := Lib.hid hps
  obtain ⟨q, hq⟩ : ∃ q, q = l[i].2[k] := ⟨_, rfl⟩
  rw [← hq] at HI ⊢
  have hki : k < ps.length := by rw [hps]; exact hk
  have hlen : l[i].2.length = ps.length := by rw [hps]
  rw [hlen] at HI hsc
  rw [← hps]
  clear hx hy c1 d0 hq hps hlen hk
  have hi0 : (0 : Int) ≤ (i : Int) := Int.natCast_nonneg _
  have hi1 : (i : Int) < (l.length : Int) := by omega
  have hk0 : (0 : Int) ≤ (k : Int) := Int.natCast_nonneg _
  have hk1 : (k : Int) < (ps.length : Int) := by omega
  go_enter Try.func96, Try.ntmps96
  go_wp2_with fail
  go_loopw [7] (fun x wr => ∃ a : Nat, a ≤ i + 1 ∧ x = .int .i64 a ∧ (a ≤ i → (allPr (l.take a)).any (fun x => sameS x q) = false) ∧ (i < a → (allPr (l.take i) ++ ps.take k).any (fun x => sameS x q) = false) ∧ Below w.heap.size w wr) (fun x _ => i + 1 - (intOf x).toNat)
  case atStart => exact ⟨0, by omega, rfl, fun _ => HPz.out _, fun h => by omega, Below.refl _ _⟩
  case round =>
    obtain ⟨a, ha, rfl, hn, hn2, hb⟩ := hrel
    obtain ⟨wq, rfl⟩ : ∃ wq : World, wq = wr := ⟨_, rfl⟩
    have Hn := Lib.hid hn
    have Hn2 := Lib.hid hn2
    clear hn hn2
    by_cases hai2 : a ≤ i
    · have Hn := Lib.hid (Hn.out hai2)
      have hal : a < l.length := by omega
      have ha0 : (0 : Int) ≤ (a : Int) := Int.natCast_nonneg _
      have ha1 : (a : Int) < (l.length : Int) := by omega
      have ha2 : (a : Int) ≤ (i : Int) := by omega
      obtain ⟨-, sa, e1, hsa⟩ := HL.out a hal
      have hsa0 := hsa
      obtain ⟨aa, ca, rfl, hca, hma, -⟩ := hsa0
      have hma := hma.1
      unfold maxLen at hma
      have He := Lib.hid (show ∀ w', Below w.heap.size w w' → w'.cell? ⟨b, o + a * 2 + 1, none⟩ = some (.slice aa l[a].2.length ca) from fun w' h => (h.cell (p := ⟨b, _, none⟩) hBb).trans e1)
      have HPa := Lib.hid (HP.out a hal)
      have Hmem := Lib.hid (show a < i → ∀ c (hc : c < l[a].2.length), sameS l[a].2[c] q = true → (allPr (l.take i)).any (fun x => sameS x q) = true from fun h c hc hq => by
        refine List.any_eq_true.2 ⟨l[a].2[c], List.mem_flatMap.2 ⟨l[a], List.mem_take_iff_getElem.2 ⟨a, by omega, rfl⟩, List.getElem_mem hc⟩, hq⟩)
      obtain ⟨pa, hpa⟩ : ∃ pa, pa = l[a].2 := ⟨_, rfl⟩
      have Hpe := Lib.hid (show a = i → pa = ps from fun h => by subst h; rw [hpa, Hps.out])
      rw [← hpa] at He HPa hsa hca
      have Hmem := Lib.hid (show a < i → ∀ c (hc : c < pa.length), sameS pa[c] q = true → (allPr (l.take i)).any (fun x => sameS x q) = true by
        intro h c hc hq
        subst hpa
        exact Hmem.out h c hc hq)
      clear e1 hpa
      go_wp2_with fail
      go_loopw [8] (fun x wr => ∃ c : Nat, c ≤ pa.length ∧ (a = i → c ≤ k) ∧ x = .int .i64 c ∧ (pa.take c).any (fun x => sameS x q) = false ∧ Below w.heap.size w wr) (fun x _ => pa.length - (intOf x).toNat)
      case atStart => exact ⟨0, Nat.zero_le _, fun _ => Nat.zero_le _, rfl, rfl, hb⟩
      case round =>
        obtain ⟨c, hc, hck, rfl, hn, hbi⟩ := hrel
        have Hnc := Lib.hid hn
        clear hn
        have e1 := He.out wr hbi
        obtain ⟨f0, f1⟩ := HI.out wr hbi
        by_cases hcl : c < pa.length
        · have hc0 : (0 : Int) ≤ (c : Int) := Int.natCast_nonneg _
          have hc1 : (c : Int) < (pa.length : Int) := by omega
          obtain ⟨av4, cap4, e4, -, -, hy⟩ := hsa.below hbi
          cases e4
          obtain ⟨b4, o4, rfl, hB4, hy⟩ := hy (by rintro rfl; cases hcl)
          obtain ⟨d0, -⟩ := hy c hcl
          rw [Nat.mul_one] at d0
          have HF := Lib.hid (fun h2 => any_take_false (p := fun x => sameS x q) hcl Hnc.out h2)
          have HM := Lib.hid (fun h => Hmem.out h c hcl)
          have HTk := Lib.hid (show a = i → c < k → sameS pa[c] q = true → (ps.take k).any (fun x => sameS x q) = true from fun h h1 h2 => by
            have hp := Hpe.out h
            subst hp
            exact any_take_hit (p := fun x => sameS x q) hcl h1 h2)
          have HTf := Lib.hid (show a = i → c = k → (ps.take k).any (fun x => sameS x q) = false from fun h h1 => by
            have hp := Hpe.out h
            subst hp; subst h1
            exact Hnc.out)
          clear hy
          generalize pa[c] = z at *
          have hsz : sameS z q = (z.toList == q.toList) := rfl
          by_cases hbr : a = i ∧ c = k
          · obtain ⟨h1, h2⟩ := hbr
            have HE := Lib.hid (show (allPr (l.take i) ++ ps.take k).any (fun x => sameS x q) = false by rw [List.any_append, HTf.out h1 h2, ← h1, Hn.out]; rfl)
            have j1 : ((a : Int) == (i : Int)) = true := beq_iff_eq.2 (by omega)
            have j2 : (k : Int) ≤ (c : Int) := by omega
            clear hsz
            go_wp2
            exact ⟨⟨a + 1, by omega, by go_num, fun h => by omega, fun _ => HE.out, hbi⟩, by simp [intOf]; omega⟩
          · have hcase : a < i ∨ (a = i ∧ c < k) := by
              rcases Nat.lt_or_ge a i with h | h
              · exact Or.inl h
              · have : a = i := by omega
                exact Or.inr ⟨this, by have := hck this; omega⟩
            cases hE : (z.toList == q.toList) with
            | true =>
              have HE := Lib.hid (show (allPr (l.take i) ++ ps.take k).any (fun x => sameS x q) = true by
                rw [List.any_append]
                rcases hcase with h | ⟨h1, h2⟩
                · rw [HM.out h (hsz.trans hE)]; rfl
                · rw [HTk.out h1 h2 (hsz.trans hE), Bool.or_true])
              clear hsz hbr
              rcases hcase with h | ⟨h1, h2⟩
              · have j1 : ((a : Int) == (i : Int)) = false := beq_eq_false_iff_ne.2 (by omega)
                go_upto_region 8 with (fail)
                go_big_quiet (fail)
                go_wp2
                go_ret
                exact ⟨ret_bool (by first | exact HE.out.symm | (rw [← List.any_append]; exact HE.out.symm)), below_drewN5 hbi _⟩
              · have j1 : ((a : Int) == (i : Int)) = true := beq_iff_eq.2 (by omega)
                have j2 : ¬ (k : Int) ≤ (c : Int) := by omega
                clear h1
                go_upto_region 8 with (fail)
                go_big_quiet (fail)
                go_wp2
                go_ret
                exact ⟨ret_bool (by first | exact HE.out.symm | (rw [← List.any_append]; exact HE.out.symm)), below_drewN5 hbi _⟩
            | false =>
              have HE := Lib.hid (HF.out (hsz.trans hE))
              clear hsz hbr
              rcases hcase with h | ⟨h1, h2⟩
              · have j1 : ((a : Int) == (i : Int)) = false := beq_eq_false_iff_ne.2 (by omega)
                go_upto_region 8 with (fail)
                go_big_quiet (fail)
                go_wp2
                exact ⟨⟨c + 1, by omega, fun h => by omega, by go_num, HE.out, below_drewN5 hbi _⟩, by simp [intOf]; omega⟩
              · have j1 : ((a : Int) == (i : Int)) = true := beq_iff_eq.2 (by omega)
                have j2 : ¬ (k : Int) ≤ (c : Int) := by omega
                clear h1
                go_upto_region 8 with (fail)
                go_big_quiet (fail)
                go_wp2
                exact ⟨⟨c + 1, by omega, fun _ => by omega, by go_num, HE.out, below_drewN5 hbi _⟩, by simp [intOf]; omega⟩
        · have hai : a < i := by
            rcases Nat.lt_or_ge a i with h | h
            · exact h
            · exfalso
              have h1 : a = i := by omega
              have h2 := hck h1
              have h3 := Hpe.out h1
              rw [h3] at hcl
              omega
          have HE := Lib.hid (show (allPr (l.take (a + 1))).any (fun x => sameS x q) = false by rw [HPa.out, Hn.out, any_end (by omega) Hnc.out]; rfl)
          have hc1 : ¬ (c : Int) < (pa.length : Int) := by omega
          go_wp2
          exact ⟨⟨a + 1, by omega, by go_num, fun _ => HE.out, fun h => by omega, hbi⟩, by simp [intOf]; omega⟩
    · have HE := Lib.hid (Hn2.out (by omega))
      have ha2 : ¬ (a : Int) ≤ (i : Int) := by omega
      go_wp2
      go_ret
      exact ⟨ret_bool (by first | exact HE.out.symm | (rw [← List.any_append]; exact HE.out.symm)), hb⟩
end Go.Proofs.Ytcfmndhjmlbcoaa
