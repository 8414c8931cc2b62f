/-
  The walks of ContainsFunc at zones and of zones.index.
-/
import Derived.Test.YtcfmndhjmlbcoaaZoneE
import Derived.Test.YtcfmndhjmlbcoaaBandD
namespace Go.Proofs.Ytcfmndhjmlbcoaa
open Go.RowKit Go.Maps

set_option maxRecDepth 100000 in
set_option maxHeartbeats 1600000 in
theorem indexZ_calls (v : Value) (l : List Zn) (w : World) (h : ZnsAt w v l) (p : Zn → Bool) (g : Nat) (lb : Array Value) (eg : ∀ args w, (callFunc g args).run Try.prog w = .ok (.enter g args) w)
    (hp : ∀ (W : World) (x : Zn) (sv : Value), Below w.heap.size w W → x ∈ l → StrsAt W sv x.2 → x.1.size ≤ maxLen → Calls Try.prog g (#[.agg #[.string x.1, sv]] ++ lb) W fun e w' => e = .returned (.bool (p x)) ∧ Below W.heap.size W w') :
    Calls Try.prog 117 #[v, .func (.func g) #[] lb] w (IdxTo p l w) := by
  have hh := h
  obtain ⟨av, cap, rfl, hlc, hm, -⟩ := h
  have hm := hm.1
  unfold maxLen at hm
  have Hp := Lib.hid hp
  clear hp
  go_enter Try.func117, Try.ntmps117
  go_wp2_with fail
  go_loopw [5, 8] (fun _ i wr => ∃ k : Nat, k ≤ l.length ∧ i = .int .i64 k ∧ (l.take k).any p = false ∧ Below w.heap.size w wr) (fun _ i _ => l.length - (intOf i).toNat)
  case atStart => exact ⟨0, Nat.zero_le _, rfl, rfl, Below.refl _ _⟩
  case round =>
    obtain ⟨k, hk, rfl, hn, hb⟩ := hrel
    have Hn := Lib.hid hn
    clear hn
    by_cases hlt : k < l.length
    · obtain ⟨av2, cap2, e2, -, -, hx⟩ := hh.below hb
      cases e2
      obtain ⟨b, o, rfl, hB, hx⟩ := hx (by rintro rfl; cases hlt)
      obtain ⟨⟨c0, s0⟩, sv, c1, hs⟩ := hx k hlt
      have hk0 : (0 : Int) ≤ (k : Int) := Int.natCast_nonneg _
      have hk1 : (k : Int) < (l.length : Int) := by omega
      have HF := Lib.hid (fun h2 => any_take_false (p := p) hlt Hn.out h2)
      have HT := Lib.hid (fun h2 => any_hit (p := p) hlt h2)
      have hcall := Hp.out wr l[k] sv hb (List.getElem_mem hlt) hs s0
      have Hs := Lib.hid hs
      clear hx hs
      generalize l[k] = y at *
      cases hE : p y with
      | true =>
        rw [hE] at hcall
        have Hcall := Lib.hid hcall
        clear hcall
        have Hb := Lib.hid hb
        go_wp2_with fail
        refine Hcall.out.mono ?_
        rintro e w' ⟨rfl, hb'⟩
        go_wp2
        go_ret
        exact ⟨k, rfl, by rw [HT.out hE]; exact decide_eq_true hk0, Hb.out.trans (hb'.mono Hb.out.size)⟩
      | false =>
        rw [hE] at hcall
        have Hcall := Lib.hid hcall
        clear hcall
        have Hb := Lib.hid hb
        go_wp2_with fail
        refine Hcall.out.mono ?_
        rintro e w' ⟨rfl, hb'⟩
        go_wp2
        exact ⟨⟨k + 1, by omega, by go_num, HF.out hE, Hb.out.trans (hb'.mono Hb.out.size)⟩, by simp [intOf]; omega⟩
    · have HE := Lib.hid (any_end (by omega) Hn.out)
      go_wp2
      go_ret
      exact ⟨-1, rfl, by rw [HE.out]; rfl, hb⟩

set_option maxHeartbeats 400000 in
theorem containsZ_calls (v : Value) (l : List Zn) (w : World) (h : ZnsAt w v l) (p : Zn → Bool) (g : Nat) (lb : Array Value) (eg : ∀ args w, (callFunc g args).run Try.prog w = .ok (.enter g args) w)
    (hp : ∀ (W : World) (x : Zn) (sv : Value), Below w.heap.size w W → x ∈ l → StrsAt W sv x.2 → x.1.size ≤ maxLen → Calls Try.prog g (#[.agg #[.string x.1, sv]] ++ lb) W fun e w' => e = .returned (.bool (p x)) ∧ Below W.heap.size W w') :
    Calls Try.prog 94 #[v, .func (.func g) #[] lb] w (BoolTo (l.any p) w) := by
  have Hc := Lib.hid (indexZ_calls v l w h p g lb eg hp)
  clear hp
  obtain ⟨av, cap, rfl, -, -, -⟩ := h
  go_enter Try.func94, Try.ntmps94
  go_wp2_with fail
  refine Hc.out.mono ?_
  rintro e w1 ⟨i, rfl, hi, hb⟩
  have Hi := Lib.hid hi
  clear hi
  by_cases h0 : 0 ≤ i
  · go_wp2
    go_ret
    exact ⟨ret_bool (by rw [← Hi.out]; try simp [h0]), hb⟩
  · go_wp2
    go_ret
    exact ⟨ret_bool (by rw [← Hi.out]; try simp [h0]), hb⟩

theorem index1_calls (x : Zn) (sv : Value) (nm : ByteArray) (B : Nat) (W : World) (hB : B < W.heap.size) (hc : W.cell? ⟨B, 0, none⟩ = some (.string nm)) :
    Calls Try.prog 95 #[.agg #[.string x.1, sv], .pointer (some ⟨B, 0, none⟩)] W fun e w' => e = .returned (.bool (sameS x.1 nm)) ∧ Below W.heap.size W w' := by
  have hne : ¬ B = W.heap.size := by omega
  have Ha := Lib.hid (fun o => (Below.refl W.heap.size W).alloc (Nat.le_refl _) o)
  go_enter Try.func95, Try.ntmps95
  go_wp2
  go_ret
  exact ⟨rfl, Ha.out _⟩

/-- The pairs of zones: prefix, name. -/
def prs (l : List Zn) : List (ByteArray × ByteArray) := l.flatMap fun z => z.2.map fun p => (p, z.1)
theorem prs_take (l : List Zn) (k : Nat) (h : k < l.length) : prs (l.take (k + 1)) = prs (l.take k) ++ l[k].2.map fun p => (p, l[k].1) := by
  unfold prs
  rw [List.take_succ_eq_append_getElem h, List.flatMap_append]
  simp
theorem prs_any (l : List Zn) (s : ByteArray) : (prs l).any (fun x => sameS x.1 s) = (allPr l).any (fun x => sameS x s) := by
  induction l with
  | nil => rfl
  | cons z r ih =>
    unfold prs allPr at *
    rw [List.flatMap_cons, List.flatMap_cons, List.any_append, List.any_append, ih, List.any_map]
    rfl
theorem pair_any (nm : ByteArray) (l : List ByteArray) (s : ByteArray) : (l.map fun p => (p, nm)).any (fun x => sameS x.1 s) = l.any (fun x => sameS x s) := by
  rw [List.any_map]; rfl
theorem OwnP.below {w w' : World} {b : Nat} {l : List (ByteArray × ByteArray)} (h : OwnP w b l) (hb : Below w.heap.size w w') : OwnP w' b l := by
  have hlt := World.ownsMap.lt h
  obtain ⟨es, c, h1, h2⟩ := h
  exact ⟨es, c, (hb.block b hlt).trans h1, h2⟩

/-- What the index of zones hands back. -/
def ZidxTo (l : List Zn) (w : World) (e : Ending) (w' : World) : Prop :=
  ∃ m, e = .returned (.tuple #[m, .int .i64 (checkZ l)]) ∧ Below w.heap.size w w' ∧ (checkZ l ≠ 0 → m = .map none) ∧ (checkZ l = 0 → ∃ b, w.heap.size ≤ b ∧ m = .map (some b) ∧ OwnP w' b (prs l))
theorem zidx_err {l : List Zn} {w w' : World} {n : Int} (h : checkZ l = n) (hn : n ≠ 0) (hb : Below w.heap.size w w') : ZidxTo l w (.returned (.tuple #[.map none, .int .i64 n])) w' :=
  ⟨.map none, by rw [h], hb, fun _ => rfl, fun h0 => absurd (h.symm.trans h0) hn⟩

set_option maxRecDepth 100000 in
set_option maxHeartbeats 6400000 in
theorem index_calls (v : Value) (l : List Zn) (w : World) (h : ZnsAt w v l) :
    Calls Try.prog 61 #[v] w (ZidxTo l w) := by
  have eg : ∀ args w, (callFunc 95 args).run Try.prog w = .ok (.enter 95 args) w := enters_of Try.func95 (by kernel_rfl) rfl
  have hh := h
  obtain ⟨av, cap, rfl, hlc, hm, -⟩ := h
  have hm := hm.1
  unfold maxLen at hm
  have hmm := @run_makeMap Try.prog
  by_cases h64 : 64 < l.length
  · have H := Lib.hid (show checkZ l = 5 from if_pos h64)
    have h64' : (64 : Int) < (l.length : Int) := by omega
    go_enter Try.func61, Try.ntmps61
    go_wp2
    go_ret2
    exact zidx_err H.out (by decide) (Below.refl _ _)
  · have HZ := Lib.hid (show checkZ l = zonesE6 (l.take 0) (l.drop 0) from if_neg h64)
    have h64' : ¬ (64 : Int) < (l.length : Int) := by omega
    go_enter Try.func61, Try.ntmps61
    go_wp2_with fail
    go_loopw [17] (fun x wr => ∃ k : Nat, k ≤ l.length ∧ x = .int .i64 k ∧ checkZ l = zonesE6 (l.take k) (l.drop k) ∧ OwnP wr w.heap.size (prs (l.take k)) ∧ (prs (l.take k)).length ≤ 64 * k ∧ Below w.heap.size w wr) (fun x _ => l.length - (intOf x).toNat)
    case atStart => exact ⟨0, Nat.zero_le _, rfl, HZ.out, OwnP.made w, Nat.zero_le _, (Below.refl _ _).alloc (Nat.le_refl _) _⟩
    case round =>
      obtain ⟨wo, rfl⟩ : ∃ wo : World, wo = wr := ⟨_, rfl⟩
      obtain ⟨k, hk, rfl, hn, hown, hpl, hb⟩ := hrel
      have Hn := Lib.hid hn
      by_cases hlt : k < l.length
      · have Hst := Lib.hid (Hn.out.trans (zonesE6_step l k hlt))
        have HPT := Lib.hid (prs_take l k hlt)
        have HAP := Lib.hid (fun s => prs_any (l.take k) s)
        obtain ⟨av2, cap2, e2, -, -, hx⟩ := id hh
        cases e2
        obtain ⟨b, o, rfl, hB, hx⟩ := hx (by rintro rfl; cases hlt)
        obtain ⟨⟨c0, s0⟩, sv, c1, hs⟩ := hx k hlt
        have c0 := (hb.cell (p := ⟨b, _, none⟩) hB).trans c0
        have c1 := (hb.cell (p := ⟨b, _, none⟩) hB).trans c1
        have hk0 : (0 : Int) ≤ (k : Int) := Int.natCast_nonneg _
        have hk1 : (k : Int) < (l.length : Int) := by omega
        have hkc : (k : Int) ≤ (cap : Int) := by omega
        clear hx hn
        generalize hy : l[k] = y at *
        clear hy
        obtain ⟨nm, ps⟩ := y
        dsimp only at c0 c1 hs s0 HPT
        have hs0 := hs
        obtain ⟨asv, cs, rfl, hsc, hms, -⟩ := hs0
        have hms := hms.1
        unfold maxLen at hms
        have hBw := World.ownsMap.lt hown
        obtain ⟨X, hX⟩ : ∃ X, X = wo.alloc (Obj.cells #[Value.string nm, .slice asv ps.length cs] 62) := ⟨_, rfl⟩
        have hbX : Below wo.heap.size wo X := by rw [hX]; exact (Below.refl _ _).alloc (Nat.le_refl _) _
        have hwX := hb.trans (hbX.mono hb.size)
        have hzX : wo.heap.size < X.heap.size := by rw [hX]; simp
        have rX : X.heap[wo.heap.size]? = some (Obj.cells #[Value.string nm, .slice asv ps.length cs] 62) := by rw [hX]; exact heap_alloc_new _ _
        have HR := Lib.hid (show ∀ w', Below X.heap.size X w' → w'.heap[wo.heap.size]? = some (Obj.cells #[Value.string nm, .slice asv ps.length cs] 62) from fun w' hb => (hb.block _ hzX).trans rX)
        have HM := Lib.hid (show ∀ w', w'.heap[wo.heap.size]? = some (Obj.cells #[Value.string nm, .slice asv ps.length cs] 62) → w'.cell? ⟨wo.heap.size, 0, none⟩ = some (.string nm) ∧ w'.cell? ⟨wo.heap.size, 1, none⟩ = some (.slice asv ps.length cs) from fun w' q =>
          ⟨cell_of_row w' _ 0 _ _ _ q, cell_of_row w' _ 1 _ _ _ q⟩)
        have HC := Lib.hid (show ∀ W, Below X.heap.size X W → Calls Try.prog 94 #[.slice (some ⟨b, o, none⟩) k cap, .func (.func 95) #[] #[.pointer (some ⟨wo.heap.size, 0, none⟩)]] W (BoolTo ((l.take k).any fun x => sameS x.1 nm) W) from fun W hW =>
          containsZ_calls _ _ W (SliceAt.take (hh.below (hwX.trans (hW.mono hwX.size))) k hk) (fun x => sameS x.1 nm) _ _ eg (fun W2 x sv hW2 _ _ _ => index1_calls x sv nm wo.heap.size W2 (Nat.lt_of_lt_of_le hzX (hW.trans (hW2.mono hW.size)).size) (HM.out W2 (HR.out W2 (hW.trans (hW2.mono hW.size)))).1))
        have HbE := Lib.hid (show zoneE (l.take k) (nm, ps) = if isName nm = false then 8 else if (l.take k).any (fun x => sameS x.1 nm) = true then 10 else if ps.length = 0 then 8 else if 64 < ps.length then 5 else prefsE (allPr (l.take k)) ps from rfl)
        have HErr := Lib.hid (fun (n : Int) (h : zoneE (l.take k) (nm, ps) = n) (hn : n ≠ 0) => (Hst.out.trans (by rw [h, if_pos hn]) : checkZ l = n))
        have HOk := Lib.hid (fun (h : zoneE (l.take k) (nm, ps) = 0) => (Hst.out.trans (by rw [h]; rfl) : checkZ l = zonesE6 (l.take (k + 1)) (l.drop (k + 1))))
        have HOX := Lib.hid (hown.below hbX)
        have HX := Lib.hid hX
        have HwX := Lib.hid hwX
        have hbw := hb.size
        obtain ⟨y0, y1⟩ := HM.out X (HR.out X (Below.refl _ _))
        clear hX hh rX hB Hst Hn hown hb hbX hwX
        generalize zoneE (l.take k) (nm, ps) = E at *
        generalize (l.take k).any (fun x => sameS x.1 nm) = an at *
        obtain ⟨PR, hPR⟩ : ∃ PR, PR = prs (l.take k) := ⟨_, rfl⟩
        rw [← hPR] at HPT HAP HOX hpl
        obtain ⟨seen, hseen⟩ : ∃ seen, seen = allPr (l.take k) := ⟨_, rfl⟩
        rw [← hseen] at HAP HbE
        clear hPR hseen
        have HNm := Lib.hid (zname_calls nm X s0)
        cases hN : isName nm with
        | false =>
          have HE := Lib.hid (HErr.out 8 (HbE.out.trans (if_pos hN)) (by decide))
          rw [hN] at HNm
          clear hN
          go_upto_region 7 with (fail)
          rw [← HX.out]
          go_wp2_with fail
          refine HNm.out.mono ?_
          rintro e w2 ⟨rfl, rfl⟩
          go_wp2
          go_ret2
          exact zidx_err HE.out (by decide) HwX.out
        | true =>
          rw [hN] at HNm
          have HbE := Lib.hid (HbE.out.trans (if_neg (by rw [hN]; decide)))
          clear hN
          cases an with
          | true =>
            have HE := Lib.hid (HErr.out 10 (HbE.out.trans (if_pos rfl)) (by decide))
            go_upto_region 7 with (fail)
            rw [← HX.out]
            go_wp2_with fail
            refine HNm.out.mono ?_
            rintro e w2 ⟨rfl, rfl⟩
            go_wp2_with fail
            refine (HC.out X (Below.refl _ _)).mono ?_
            rintro e w3 ⟨rfl, hb3⟩
            have Hb3 := Lib.hid (HwX.out.trans (hb3.mono HwX.out.size))
            go_wp2
            go_ret2
            exact zidx_err HE.out (by decide) Hb3.out
          | false =>
            have HbE := Lib.hid (HbE.out.trans (if_neg (by decide)))
            go_upto_region 7 with (fail)
            rw [← HX.out]
            go_wp2_with fail
            refine HNm.out.mono ?_
            rintro e w2 ⟨rfl, rfl⟩
            clear y0 y1
            go_wp2_with fail
            refine (HC.out X (Below.refl _ _)).mono ?_
            rintro e w3 ⟨rfl, hb3⟩
            have Hb3 := Lib.hid (HwX.out.trans (hb3.mono HwX.out.size))
            have HO3 := Lib.hid (HOX.out.below hb3)
            have H3 := Lib.hid (HR.out w3 hb3)
            have hz3 : wo.heap.size < w3.heap.size := Nat.lt_of_lt_of_le hzX hb3.size
            clear hb3 HOX
            obtain ⟨y0, y1⟩ := HM.out w3 H3.out
            by_cases h0 : ps.length = 0
            · have hz0 : ((ps.length : Int) == 0) = true := beq_iff_eq.2 (by omega)
              have HE := Lib.hid (HErr.out 8 (HbE.out.trans (if_pos h0)) (by decide))
              clear h0
              go_wp2
              go_ret2
              exact zidx_err HE.out (by decide) Hb3.out
            · have hz0 : ((ps.length : Int) == 0) = false := beq_eq_false_iff_ne.2 (by omega)
              have HbE := Lib.hid (HbE.out.trans (if_neg h0))
              by_cases h65 : 64 < ps.length
              · have h65' : (64 : Int) < (ps.length : Int) := by omega
                have HE := Lib.hid (HErr.out 5 (HbE.out.trans (if_pos h65)) (by decide))
                clear h0
                go_wp2
                go_ret2
                exact zidx_err HE.out (by decide) Hb3.out
              · have h65' : ¬ (64 : Int) < (ps.length : Int) := by omega
                have HbE := Lib.hid (HbE.out.trans (if_neg h65))
                clear h0
                go_wp2_with fail
                clear y0 y1
                go_loopw [46] (fun x wq => ∃ j : Nat, j ≤ ps.length ∧ x = .int .i64 j ∧ E = prefsE (seen ++ ps.take j) (ps.drop j) ∧ OwnP wq w.heap.size (PR ++ (ps.take j).map fun p => (p, nm)) ∧ w3.grownBy wq (some w.heap.size)) (fun x _ => ps.length - (intOf x).toNat)
                case atStart => exact ⟨0, Nat.zero_le _, rfl, by rw [HbE.out]; simp, by rw [List.take_zero, List.map_nil, List.append_nil]; exact HO3.out, World.grownBy.refl _ _⟩
                case round =>
                  obtain ⟨j, hj, rfl, hn, hown, hg⟩ := hrel
                  have Hn := Lib.hid hn
                  have Hg := Lib.hid hg
                  have Hown := Lib.hid hown
                  have Hbq := Lib.hid (Hb3.out.grown hg Hb3.out.size (fun i hi => by cases hi; exact Nat.le_refl _))
                  have hrow := (hg.block wo.heap.size hz3 (by intro e; have := Option.some.inj e; omega)).trans H3.out
                  obtain ⟨y0, y1⟩ := HM.out wr hrow
                  clear hn hg hown hrow
                  by_cases hjl : j < ps.length
                  · have Hst := Lib.hid (Hn.out.trans (prefsE_step seen ps j hjl))
                    have HPk := Lib.hid (show (PR ++ (ps.take (j + 1)).map fun p => (p, nm)) = (PR ++ (ps.take j).map fun p => (p, nm)) ++ [(ps[j], nm)] by rw [List.take_succ_eq_append_getElem hjl, List.map_append, List.append_assoc]; rfl)
                    have hPl : (PR ++ (ps.take j).map fun p => (p, nm)).length ≤ 64 * k + j := by rw [List.length_append, List.length_map, List.length_take]; omega
                    obtain ⟨av4, cap4, e4, -, -, hy⟩ := hs.below Hbq.out
                    cases e4
                    obtain ⟨b4, o4, rfl, hB4, hy⟩ := hy (by rintro rfl; cases hjl)
                    obtain ⟨d0, ds⟩ := hy j hjl
                    rw [Nat.mul_one] at d0
                    have hj0 : (0 : Int) ≤ (j : Int) := Int.natCast_nonneg _
                    have hj1 : (j : Int) < (ps.length : Int) := by omega
                    clear hy
                    generalize ps[j] = q at *
                    have HA := Lib.hid (show (PR ++ (ps.take j).map fun p => (p, nm)).any (fun x => sameS x.1 q) = (seen ++ ps.take j).any (fun x => sameS x q) by rw [List.any_append, List.any_append, HAP.out, pair_any])
                    generalize (PR ++ (ps.take j).map fun p => (p, nm)) = PL at *
                    generalize (seen ++ ps.take j).any (fun x => sameS x q) = an at *
                    obtain ⟨vs, hvs⟩ : ∃ vs, valP PL q = vs := ⟨_, rfl⟩
                    have Hvs := Lib.hid hvs
                    have HV := Lib.hid (fun w1 => dvalid_calls q w1 ds)
                    clear hvs
                    cases hg : isNum q with
                    | false =>
                      rw [hg] at HV
                      have HE := Lib.hid (HErr.out 12 (Hst.out.trans (if_pos hg)) (by decide))
                      clear hg
                      go_wp2_with fail
                      refine (HV.out wr).mono ?_
                      rintro e w4 ⟨rfl, rfl⟩
                      go_wp2
                      go_ret2
                      exact zidx_err HE.out (by decide) Hbq.out
                    | true =>
                      rw [hg] at HV
                      have Hst := Lib.hid (Hst.out.trans (if_neg (by rw [hg]; decide)))
                      clear hg
                      cases an with
                      | true =>
                        have HE := Lib.hid (HErr.out 10 (Hst.out.trans (if_pos rfl)) (by decide))
                        go_wp2_with fail
                        refine (HV.out wr).mono ?_
                        rintro e w4 ⟨rfl, rfl⟩
                        go_wp2_with (at_lookup; refine wpList_lookup_pairs _ rfl _ _ rfl w.heap.size _ rfl Hown.out q vs true rfl ds Hvs.out HA.out ?_)
                        go_ret2
                        exact zidx_err HE.out (by decide) Hbq.out
                      | false =>
                        have HE := Lib.hid (Hst.out.trans (if_neg (by decide)))
                        go_wp2_with fail
                        refine (HV.out wr).mono ?_
                        rintro e w4 ⟨rfl, rfl⟩
                        go_wp2_with (first
                          | (at_lookup; refine wpList_lookup_pairs _ rfl _ _ rfl w.heap.size _ rfl Hown.out q vs false rfl ds Hvs.out HA.out ?_)
                          | (at_mapUpdate; refine wpList_mapUpdate_pairs _ rfl _ _ _ rfl w.heap.size _ rfl Hown.out (by unfold maxLen; omega) q nm rfl rfl ds s0 ?_; intro w5 hown5 hg5))
                        exact ⟨⟨j + 1, by omega, by go_num, HE.out, by rw [HPk.out]; exact hown5, Hg.out.trans hg5⟩, by simp [intOf]; omega⟩
                  · have HE := Lib.hid (HOk.out (Hn.out.trans (prefsE_end seen ps j (by omega))))
                    have hO := Hown.out
                    rw [List.take_of_length_le (by omega), ← HPT.out] at hO
                    have hL : (prs (l.take (k + 1))).length ≤ 64 * (k + 1) := by rw [HPT.out, List.length_append, List.length_map]; omega
                    have HO := Lib.hid hO
                    clear hO
                    go_wp2
                    exact ⟨⟨k + 1, by omega, by go_num, HE.out, HO.out, hL, Hbq.out⟩, by simp [intOf]; omega⟩
      · have HE := Lib.hid (Hn.out.trans (zonesE6_end l k (by omega)))
        have hO := hown
        rw [List.take_of_length_le (by omega)] at hO
        have HO := Lib.hid hO
        clear hO hown hn
        go_wp2
        go_ret2
        exact ⟨.map (some w.heap.size), by rw [HE.out]; rfl, hb, fun h => absurd HE.out h, fun _ => ⟨_, Nat.le_refl _, rfl, HO.out⟩⟩
end Go.Proofs.Ytcfmndhjmlbcoaa
