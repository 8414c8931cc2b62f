/-
  The walks of ContainsFunc at zones and of zones.index.
  The walks of zones.Check, longest, Find.
  The walks of the reference's HasPrefix, find and Find of zones.
  The plain law of finding: the longest beginning in the map is the specification's.
-/
import Derived.Test.YtnekgkmlodeckaaMgbr
import Derived.Test.YtnekgkmlodeckaaMgax
namespace Go.Proofs.Ytnekgkmlodeckaa
open Go.RowKit Go.Maps

set_option maxRecDepth 100000 in
set_option maxHeartbeats 1600000 in
theorem indexZ_calls (v : Value) (l : List Zn) (w : World) (h : ZnsAt w v l) (p : Zn → Bool) (g : Nat) (lb : Array Value) (eg : ∀ args w, (callFunc g args).run Try.prog w = .ok (.enter g args) w)
    (hp : ∀ (W : World) (x : Zn) (sv : Value), Below w.heap.size w W → x ∈ l → StrsAt W sv x.2 → x.1.size ≤ maxLen → Calls Try.prog g (#[.agg #[.string x.1, sv]] ++ lb) W fun e w' => e = .returned (.bool (p x)) ∧ Below W.heap.size W w') :
    Calls Try.prog 144 #[v, .func (.func g) #[] lb] w (IdxTo p l w) := by
  have hh := h
  obtain ⟨av, cap, rfl, hlc, hm, -⟩ := h
  have hm := hm.1
  unfold maxLen at hm
  have Hp := Lib.hid hp
  clear hp
  go_enter Try.func144, Try.ntmps144
  go_wp2_with fail
  go_loopw [5, 8] (fun _ i wr => ∃ k : Nat, k ≤ l.length ∧ i = .int .i64 k ∧ (l.take k).any p = false ∧ Below w.heap.size w wr) (fun _ i _ => l.length - (intOf i).toNat)
  case atStart => exact ⟨0, Nat.zero_le _, rfl, rfl, Below.refl _ _⟩
  case round =>
    obtain ⟨k, hk, rfl, hn, hb⟩ := hrel
    have Hn := Lib.hid hn
    clear hn
    by_cases hlt : k < l.length
    · obtain ⟨av2, cap2, e2, -, -, hx⟩ := hh.below hb
      cases e2
      obtain ⟨b, o, rfl, hB, hx⟩ := hx (by rintro rfl; cases hlt)
      obtain ⟨⟨c0, s0⟩, sv, c1, hs⟩ := hx k hlt
      have hk0 : (0 : Int) ≤ (k : Int) := Int.natCast_nonneg _
      have hk1 : (k : Int) < (l.length : Int) := by omega
      have HF := Lib.hid (fun h2 => any_take_false (p := p) hlt Hn.out h2)
      have HT := Lib.hid (fun h2 => any_hit (p := p) hlt h2)
      have hcall := Hp.out wr l[k] sv hb (List.getElem_mem hlt) hs s0
      have Hs := Lib.hid hs
      clear hx hs
      generalize l[k] = y at *
      cases hE : p y with
      | true =>
        rw [hE] at hcall
        have Hcall := Lib.hid hcall
        clear hcall
        have Hb := Lib.hid hb
        go_wp2_with fail
        refine Hcall.out.mono ?_
        rintro e w' ⟨rfl, hb'⟩
        go_wp2
        go_ret
        exact ⟨k, rfl, by rw [HT.out hE]; exact decide_eq_true hk0, Hb.out.trans (hb'.mono Hb.out.size)⟩
      | false =>
        rw [hE] at hcall
        have Hcall := Lib.hid hcall
        clear hcall
        have Hb := Lib.hid hb
        go_wp2_with fail
        refine Hcall.out.mono ?_
        rintro e w' ⟨rfl, hb'⟩
        go_wp2
        exact ⟨⟨k + 1, by omega, by go_num, HF.out hE, Hb.out.trans (hb'.mono Hb.out.size)⟩, by simp [intOf]; omega⟩
    · have HE := Lib.hid (any_end (by omega) Hn.out)
      go_wp2
      go_ret
      exact ⟨-1, rfl, by rw [HE.out]; rfl, hb⟩

set_option maxHeartbeats 400000 in
theorem containsZ_calls (v : Value) (l : List Zn) (w : World) (h : ZnsAt w v l) (p : Zn → Bool) (g : Nat) (lb : Array Value) (eg : ∀ args w, (callFunc g args).run Try.prog w = .ok (.enter g args) w)
    (hp : ∀ (W : World) (x : Zn) (sv : Value), Below w.heap.size w W → x ∈ l → StrsAt W sv x.2 → x.1.size ≤ maxLen → Calls Try.prog g (#[.agg #[.string x.1, sv]] ++ lb) W fun e w' => e = .returned (.bool (p x)) ∧ Below W.heap.size W w') :
    Calls Try.prog 121 #[v, .func (.func g) #[] lb] w (BoolTo (l.any p) w) := by
  have Hc := Lib.hid (indexZ_calls v l w h p g lb eg hp)
  clear hp
  obtain ⟨av, cap, rfl, -, -, -⟩ := h
  go_enter Try.func121, Try.ntmps121
  go_wp2_with fail
  refine Hc.out.mono ?_
  rintro e w1 ⟨i, rfl, hi, hb⟩
  have Hi := Lib.hid hi
  clear hi
  by_cases h0 : 0 ≤ i
  · go_wp2
    go_ret
    exact ⟨ret_bool (by rw [← Hi.out]; try simp [h0]), hb⟩
  · go_wp2
    go_ret
    exact ⟨ret_bool (by rw [← Hi.out]; try simp [h0]), hb⟩

theorem index1_calls (x : Zn) (sv : Value) (nm : ByteArray) (B : Nat) (W : World) (hB : B < W.heap.size) (hc : W.cell? ⟨B, 0, none⟩ = some (.string nm)) :
    Calls Try.prog 122 #[.agg #[.string x.1, sv], .pointer (some ⟨B, 0, none⟩)] W fun e w' => e = .returned (.bool (sameS x.1 nm)) ∧ Below W.heap.size W w' := by
  have hne : ¬ B = W.heap.size := by omega
  have Ha := Lib.hid (fun o => (Below.refl W.heap.size W).alloc (Nat.le_refl _) o)
  go_enter Try.func122, Try.ntmps122
  go_wp2
  go_ret
  exact ⟨rfl, Ha.out _⟩

/-- The pairs of zones: prefix, name. -/
def prs (l : List Zn) : List (ByteArray × ByteArray) := l.flatMap fun z => z.2.map fun p => (p, z.1)
theorem prs_take (l : List Zn) (k : Nat) (h : k < l.length) : prs (l.take (k + 1)) = prs (l.take k) ++ l[k].2.map fun p => (p, l[k].1) := by
  unfold prs
  rw [List.take_succ_eq_append_getElem h, List.flatMap_append]
  simp
theorem prs_any (l : List Zn) (s : ByteArray) : (prs l).any (fun x => sameS x.1 s) = (allPr l).any (fun x => sameS x s) := by
  induction l with
  | nil => rfl
  | cons z r ih =>
    unfold prs allPr at *
    rw [List.flatMap_cons, List.flatMap_cons, List.any_append, List.any_append, ih, List.any_map]
    rfl
theorem pair_any (nm : ByteArray) (l : List ByteArray) (s : ByteArray) : (l.map fun p => (p, nm)).any (fun x => sameS x.1 s) = l.any (fun x => sameS x s) := by
  rw [List.any_map]; rfl
theorem OwnP.below {w w' : World} {b : Nat} {l : List (ByteArray × ByteArray)} (h : OwnP w b l) (hb : Below w.heap.size w w') : OwnP w' b l := by
  have hlt := World.ownsMap.lt h
  obtain ⟨es, c, h1, h2⟩ := h
  exact ⟨es, c, (hb.block b hlt).trans h1, h2⟩

/-- What the index of zones hands back. -/
def ZidxTo (l : List Zn) (w : World) (e : Ending) (w' : World) : Prop :=
  ∃ m, e = .returned (.tuple #[m, .int .i64 (checkZ l)]) ∧ Below w.heap.size w w' ∧ (checkZ l ≠ 0 → m = .map none) ∧ (checkZ l = 0 → ∃ b, w.heap.size ≤ b ∧ m = .map (some b) ∧ OwnP w' b (prs l))
theorem zidx_err {l : List Zn} {w w' : World} {n : Int} (h : checkZ l = n) (hn : n ≠ 0) (hb : Below w.heap.size w w') : ZidxTo l w (.returned (.tuple #[.map none, .int .i64 n])) w' :=
  ⟨.map none, by rw [h], hb, fun _ => rfl, fun h0 => absurd (h.symm.trans h0) hn⟩

set_option maxRecDepth 100000 in
set_option maxHeartbeats 6400000 in
theorem index_calls (v : Value) (l : List Zn) (w : World) (h : ZnsAt w v l) :
    Calls Try.prog 84 #[v] w (ZidxTo l w) := by
  have eg : ∀ args w, (callFunc 122 args).run Try.prog w = .ok (.enter 122 args) w := enters_of Try.func122 (by kernel_rfl) rfl
  have hh := h
  obtain ⟨av, cap, rfl, hlc, hm, -⟩ := h
  have hm := hm.1
  unfold maxLen at hm
  have hmm := @run_makeMap Try.prog
  by_cases h64 : 64 < l.length
  · have H := Lib.hid (show checkZ l = 5 from if_pos h64)
    have h64' : (64 : Int) < (l.length : Int) := by omega
    go_enter Try.func84, Try.ntmps84
    go_wp2
    go_ret2
    exact zidx_err H.out (by decide) (Below.refl _ _)
  · have HZ := Lib.hid (show checkZ l = zonesE6 (l.take 0) (l.drop 0) from if_neg h64)
    have h64' : ¬ (64 : Int) < (l.length : Int) := by omega
    go_enter Try.func84, Try.ntmps84
    go_wp2_with fail
    go_loopw [17] (fun x wr => ∃ k : Nat, k ≤ l.length ∧ x = .int .i64 k ∧ checkZ l = zonesE6 (l.take k) (l.drop k) ∧ OwnP wr w.heap.size (prs (l.take k)) ∧ (prs (l.take k)).length ≤ 64 * k ∧ Below w.heap.size w wr) (fun x _ => l.length - (intOf x).toNat)
    case atStart => exact ⟨0, Nat.zero_le _, rfl, HZ.out, OwnP.made w, Nat.zero_le _, (Below.refl _ _).alloc (Nat.le_refl _) _⟩
    case round =>
      obtain ⟨wo, rfl⟩ : ∃ wo : World, wo = wr := ⟨_, rfl⟩
      obtain ⟨k, hk, rfl, hn, hown, hpl, hb⟩ := hrel
      have Hn := Lib.hid hn
      by_cases hlt : k < l.length
      · have Hst := Lib.hid (Hn.out.trans (zonesE6_step l k hlt))
        have HPT := Lib.hid (prs_take l k hlt)
        have HAP := Lib.hid (fun s => prs_any (l.take k) s)
        obtain ⟨av2, cap2, e2, -, -, hx⟩ := id hh
        cases e2
        obtain ⟨b, o, rfl, hB, hx⟩ := hx (by rintro rfl; cases hlt)
        obtain ⟨⟨c0, s0⟩, sv, c1, hs⟩ := hx k hlt
        have c0 := (hb.cell (p := ⟨b, _, none⟩) hB).trans c0
        have c1 := (hb.cell (p := ⟨b, _, none⟩) hB).trans c1
        have hk0 : (0 : Int) ≤ (k : Int) := Int.natCast_nonneg _
        have hk1 : (k : Int) < (l.length : Int) := by omega
        have hkc : (k : Int) ≤ (cap : Int) := by omega
        clear hx hn
        generalize hy : l[k] = y at *
        clear hy
        obtain ⟨nm, ps⟩ := y
        dsimp only at c0 c1 hs s0 HPT
        have hs0 := hs
        obtain ⟨asv, cs, rfl, hsc, hms, -⟩ := hs0
        have hms := hms.1
        unfold maxLen at hms
        have hBw := World.ownsMap.lt hown
        obtain ⟨X, hX⟩ : ∃ X, X = wo.alloc (Obj.cells #[Value.string nm, .slice asv ps.length cs] 83) := ⟨_, rfl⟩
        have hbX : Below wo.heap.size wo X := by rw [hX]; exact (Below.refl _ _).alloc (Nat.le_refl _) _
        have hwX := hb.trans (hbX.mono hb.size)
        have hzX : wo.heap.size < X.heap.size := by rw [hX]; simp
        have rX : X.heap[wo.heap.size]? = some (Obj.cells #[Value.string nm, .slice asv ps.length cs] 83) := by rw [hX]; exact heap_alloc_new _ _
        have HR := Lib.hid (show ∀ w', Below X.heap.size X w' → w'.heap[wo.heap.size]? = some (Obj.cells #[Value.string nm, .slice asv ps.length cs] 83) from fun w' hb => (hb.block _ hzX).trans rX)
        have HM := Lib.hid (show ∀ w', w'.heap[wo.heap.size]? = some (Obj.cells #[Value.string nm, .slice asv ps.length cs] 83) → w'.cell? ⟨wo.heap.size, 0, none⟩ = some (.string nm) ∧ w'.cell? ⟨wo.heap.size, 1, none⟩ = some (.slice asv ps.length cs) from fun w' q =>
          ⟨cell_of_row w' _ 0 _ _ _ q, cell_of_row w' _ 1 _ _ _ q⟩)
        have HC := Lib.hid (show ∀ W, Below X.heap.size X W → Calls Try.prog 121 #[.slice (some ⟨b, o, none⟩) k cap, .func (.func 122) #[] #[.pointer (some ⟨wo.heap.size, 0, none⟩)]] W (BoolTo ((l.take k).any fun x => sameS x.1 nm) W) from fun W hW =>
          containsZ_calls _ _ W (SliceAt.take (hh.below (hwX.trans (hW.mono hwX.size))) k hk) (fun x => sameS x.1 nm) _ _ eg (fun W2 x sv hW2 _ _ _ => index1_calls x sv nm wo.heap.size W2 (Nat.lt_of_lt_of_le hzX (hW.trans (hW2.mono hW.size)).size) (HM.out W2 (HR.out W2 (hW.trans (hW2.mono hW.size)))).1))
        have HbE := Lib.hid (show zoneE (l.take k) (nm, ps) = if isName nm = false then 8 else if (l.take k).any (fun x => sameS x.1 nm) = true then 10 else if ps.length = 0 then 8 else if 64 < ps.length then 5 else prefsE (allPr (l.take k)) ps from rfl)
        have HErr := Lib.hid (fun (n : Int) (h : zoneE (l.take k) (nm, ps) = n) (hn : n ≠ 0) => (Hst.out.trans (by rw [h, if_pos hn]) : checkZ l = n))
        have HOk := Lib.hid (fun (h : zoneE (l.take k) (nm, ps) = 0) => (Hst.out.trans (by rw [h]; rfl) : checkZ l = zonesE6 (l.take (k + 1)) (l.drop (k + 1))))
        have HOX := Lib.hid (hown.below hbX)
        have HX := Lib.hid hX
        have HwX := Lib.hid hwX
        have hbw := hb.size
        obtain ⟨y0, y1⟩ := HM.out X (HR.out X (Below.refl _ _))
        clear hX hh rX hB Hst Hn hown hb hbX hwX
        generalize zoneE (l.take k) (nm, ps) = E at *
        generalize (l.take k).any (fun x => sameS x.1 nm) = an at *
        obtain ⟨PR, hPR⟩ : ∃ PR, PR = prs (l.take k) := ⟨_, rfl⟩
        rw [← hPR] at HPT HAP HOX hpl
        obtain ⟨seen, hseen⟩ : ∃ seen, seen = allPr (l.take k) := ⟨_, rfl⟩
        rw [← hseen] at HAP HbE
        clear hPR hseen
        have HNm := Lib.hid (zname_calls nm X s0)
        cases hN : isName nm with
        | false =>
          have HE := Lib.hid (HErr.out 8 (HbE.out.trans (if_pos hN)) (by decide))
          rw [hN] at HNm
          clear hN
          go_upto_region 7 with (fail)
          rw [← HX.out]
          go_wp2_with fail
          refine HNm.out.mono ?_
          rintro e w2 ⟨rfl, rfl⟩
          go_wp2
          go_ret2
          exact zidx_err HE.out (by decide) HwX.out
        | true =>
          rw [hN] at HNm
          have HbE := Lib.hid (HbE.out.trans (if_neg (by rw [hN]; decide)))
          clear hN
          cases an with
          | true =>
            have HE := Lib.hid (HErr.out 10 (HbE.out.trans (if_pos rfl)) (by decide))
            go_upto_region 7 with (fail)
            rw [← HX.out]
            go_wp2_with fail
            refine HNm.out.mono ?_
            rintro e w2 ⟨rfl, rfl⟩
            go_wp2_with fail
            refine (HC.out X (Below.refl _ _)).mono ?_
            rintro e w3 ⟨rfl, hb3⟩
            have Hb3 := Lib.hid (HwX.out.trans (hb3.mono HwX.out.size))
            go_wp2
            go_ret2
            exact zidx_err HE.out (by decide) Hb3.out
          | false =>
            have HbE := Lib.hid (HbE.out.trans (if_neg (by decide)))
            go_upto_region 7 with (fail)
            rw [← HX.out]
            go_wp2_with fail
            refine HNm.out.mono ?_
            rintro e w2 ⟨rfl, rfl⟩
            clear y0 y1
            go_wp2_with fail
            refine (HC.out X (Below.refl _ _)).mono ?_
            rintro e w3 ⟨rfl, hb3⟩
            have Hb3 := Lib.hid (HwX.out.trans (hb3.mono HwX.out.size))
            have HO3 := Lib.hid (HOX.out.below hb3)
            have H3 := Lib.hid (HR.out w3 hb3)
            have hz3 : wo.heap.size < w3.heap.size := Nat.lt_of_lt_of_le hzX hb3.size
            clear hb3 HOX
            obtain ⟨y0, y1⟩ := HM.out w3 H3.out
            by_cases h0 : ps.length = 0
            · have hz0 : ((ps.length : Int) == 0) = true := beq_iff_eq.2 (by omega)
              have HE := Lib.hid (HErr.out 8 (HbE.out.trans (if_pos h0)) (by decide))
              clear h0
              go_wp2
              go_ret2
              exact zidx_err HE.out (by decide) Hb3.out
            · have hz0 : ((ps.length : Int) == 0) = false := beq_eq_false_iff_ne.2 (by omega)
              have HbE := Lib.hid (HbE.out.trans (if_neg h0))
              by_cases h65 : 64 < ps.length
              · have h65' : (64 : Int) < (ps.length : Int) := by omega
                have HE := Lib.hid (HErr.out 5 (HbE.out.trans (if_pos h65)) (by decide))
                clear h0
                go_wp2
                go_ret2
                exact zidx_err HE.out (by decide) Hb3.out
              · have h65' : ¬ (64 : Int) < (ps.length : Int) := by omega
                have HbE := Lib.hid (HbE.out.trans (if_neg h65))
                clear h0
                go_wp2_with fail
                clear y0 y1
                go_loopw [46] (fun x wq => ∃ j : Nat, j ≤ ps.length ∧ x = .int .i64 j ∧ E = prefsE (seen ++ ps.take j) (ps.drop j) ∧ OwnP wq w.heap.size (PR ++ (ps.take j).map fun p => (p, nm)) ∧ w3.grownBy wq (some w.heap.size)) (fun x _ => ps.length - (intOf x).toNat)
                case atStart => exact ⟨0, Nat.zero_le _, rfl, by rw [HbE.out]; simp, by rw [List.take_zero, List.map_nil, List.append_nil]; exact HO3.out, World.grownBy.refl _ _⟩
                case round =>
                  obtain ⟨j, hj, rfl, hn, hown, hg⟩ := hrel
                  have Hn := Lib.hid hn
                  have Hg := Lib.hid hg
                  have Hown := Lib.hid hown
                  have Hbq := Lib.hid (Hb3.out.grown hg Hb3.out.size (fun i hi => by cases hi; exact Nat.le_refl _))
                  have hrow := (hg.block wo.heap.size hz3 (by intro e; have := Option.some.inj e; omega)).trans H3.out
                  obtain ⟨y0, y1⟩ := HM.out wr hrow
                  clear hn hg hown hrow
                  by_cases hjl : j < ps.length
                  · have Hst := Lib.hid (Hn.out.trans (prefsE_step seen ps j hjl))
                    have HPk := Lib.hid (show (PR ++ (ps.take (j + 1)).map fun p => (p, nm)) = (PR ++ (ps.take j).map fun p => (p, nm)) ++ [(ps[j], nm)] by rw [List.take_succ_eq_append_getElem hjl, List.map_append, List.append_assoc]; rfl)
                    have hPl : (PR ++ (ps.take j).map fun p => (p, nm)).length ≤ 64 * k + j := by rw [List.length_append, List.length_map, List.length_take]; omega
                    obtain ⟨av4, cap4, e4, -, -, hy⟩ := hs.below Hbq.out
                    cases e4
                    obtain ⟨b4, o4, rfl, hB4, hy⟩ := hy (by rintro rfl; cases hjl)
                    obtain ⟨d0, ds⟩ := hy j hjl
                    rw [Nat.mul_one] at d0
                    have hj0 : (0 : Int) ≤ (j : Int) := Int.natCast_nonneg _
                    have hj1 : (j : Int) < (ps.length : Int) := by omega
                    clear hy
                    generalize ps[j] = q at *
                    have HA := Lib.hid (show (PR ++ (ps.take j).map fun p => (p, nm)).any (fun x => sameS x.1 q) = (seen ++ ps.take j).any (fun x => sameS x q) by rw [List.any_append, List.any_append, HAP.out, pair_any])
                    generalize (PR ++ (ps.take j).map fun p => (p, nm)) = PL at *
                    generalize (seen ++ ps.take j).any (fun x => sameS x q) = an at *
                    obtain ⟨vs, hvs⟩ : ∃ vs, valP PL q = vs := ⟨_, rfl⟩
                    have Hvs := Lib.hid hvs
                    have HV := Lib.hid (fun w1 => dvalid_calls q w1 ds)
                    clear hvs
                    cases hg : isNum q with
                    | false =>
                      rw [hg] at HV
                      have HE := Lib.hid (HErr.out 12 (Hst.out.trans (if_pos hg)) (by decide))
                      clear hg
                      go_wp2_with fail
                      refine (HV.out wr).mono ?_
                      rintro e w4 ⟨rfl, rfl⟩
                      go_wp2
                      go_ret2
                      exact zidx_err HE.out (by decide) Hbq.out
                    | true =>
                      rw [hg] at HV
                      have Hst := Lib.hid (Hst.out.trans (if_neg (by rw [hg]; decide)))
                      clear hg
                      cases an with
                      | true =>
                        have HE := Lib.hid (HErr.out 10 (Hst.out.trans (if_pos rfl)) (by decide))
                        go_wp2_with fail
                        refine (HV.out wr).mono ?_
                        rintro e w4 ⟨rfl, rfl⟩
                        go_wp2_with (at_lookup; refine wpList_lookup_pairs _ rfl _ _ rfl w.heap.size _ rfl Hown.out q vs true rfl ds Hvs.out HA.out ?_)
                        go_ret2
                        exact zidx_err HE.out (by decide) Hbq.out
                      | false =>
                        have HE := Lib.hid (Hst.out.trans (if_neg (by decide)))
                        go_wp2_with fail
                        refine (HV.out wr).mono ?_
                        rintro e w4 ⟨rfl, rfl⟩
                        go_wp2_with (first
                          | (at_lookup; refine wpList_lookup_pairs _ rfl _ _ rfl w.heap.size _ rfl Hown.out q vs false rfl ds Hvs.out HA.out ?_)
                          | (at_mapUpdate; refine wpList_mapUpdate_pairs _ rfl _ _ _ rfl w.heap.size _ rfl Hown.out (by unfold maxLen; omega) q nm rfl rfl ds s0 ?_; intro w5 hown5 hg5))
                        exact ⟨⟨j + 1, by omega, by go_num, HE.out, by rw [HPk.out]; exact hown5, Hg.out.trans hg5⟩, by simp [intOf]; omega⟩
                  · have HE := Lib.hid (HOk.out (Hn.out.trans (prefsE_end seen ps j (by omega))))
                    have hO := Hown.out
                    rw [List.take_of_length_le (by omega), ← HPT.out] at hO
                    have hL : (prs (l.take (k + 1))).length ≤ 64 * (k + 1) := by rw [HPT.out, List.length_append, List.length_map]; omega
                    have HO := Lib.hid hO
                    clear hO
                    go_wp2
                    exact ⟨⟨k + 1, by omega, by go_num, HE.out, HO.out, hL, Hbq.out⟩, by simp [intOf]; omega⟩
      · have HE := Lib.hid (Hn.out.trans (zonesE6_end l k (by omega)))
        have hO := hown
        rw [List.take_of_length_le (by omega)] at hO
        have HO := Lib.hid hO
        clear hO hown hn
        go_wp2
        go_ret2
        exact ⟨.map (some w.heap.size), by rw [HE.out]; rfl, hb, fun h => absurd HE.out h, fun _ => ⟨_, Nat.le_refl _, rfl, HO.out⟩⟩
end Go.Proofs.Ytnekgkmlodeckaa

namespace Go.Proofs.Ytnekgkmlodeckaa
open Go.RowKit Go.Maps

theorem zcheck_calls (v : Value) (l : List Zn) (w : World) (h : ZnsAt w v l) : Calls Try.prog 83 #[v] w (IntTo (checkZ l) w) := by
  have Hi := Lib.hid (index_calls v l w h)
  obtain ⟨av, cap, rfl, -, -, -⟩ := h
  go_enter Try.func83, Try.ntmps83
  go_wp2_with fail
  refine Hi.out.mono ?_
  rintro e w2 ⟨m, rfl, hb, -, -⟩
  go_wp2
  go_ret
  exact ⟨rfl, hb⟩

/-- The value at the longest beginning of a text, of at most n bytes, that is in a map. -/
def longP (L : List (ByteArray × ByteArray)) (s : ByteArray) : Nat → ByteArray × Bool
  | 0 => (ByteArray.empty, false)
  | n + 1 => if L.any (fun x => sameS x.1 (s.extract 0 (n + 1))) = true then (valP L (s.extract 0 (n + 1)), true) else longP L s n

set_option maxRecDepth 100000 in
theorem longest_calls (b : Nat) (L : List (ByteArray × ByteArray)) (s : ByteArray) (n : Nat) (w : World) (h : OwnP w b L) (hs : s.size ≤ maxLen) (hn : n ≤ s.size) :
    Calls Try.prog 86 #[.map (some b), .string s, .int .i64 n] w fun e w' => e = .returned (.tuple #[.string (longP L s n).1, .bool (longP L s n).2]) ∧ w = w' := by
  have hsl := hs
  unfold maxLen at hsl
  go_enter Try.func86, Try.ntmps86
  go_wp2_with fail
  go_loop [2] (fun x => ∃ k : Nat, k ≤ n ∧ x = .int .i64 k ∧ longP L s n = longP L s k) (fun x => (intOf x).toNat)
  case atStart => exact ⟨n, Nat.le_refl _, rfl, rfl⟩
  case round =>
    obtain ⟨k, hk, rfl, hn⟩ := hrel
    have Hn := Lib.hid hn
    clear hn
    cases k with
    | zero =>
      have HE := Lib.hid (Hn.out.trans rfl)
      go_wp2
      go_ret2
      exact ⟨by rw [HE.out]; rfl, rfl⟩
    | succ k =>
      have hkp : (0 : Int) < ((k + 1 : Nat) : Int) := by omega
      have HS := Lib.hid (show longP L s (k + 1) = if L.any (fun x => sameS x.1 (s.extract 0 (k + 1))) = true then (valP L (s.extract 0 (k + 1)), true) else longP L s k from rfl)
      have hq : (s.extract 0 (k + 1)).size ≤ maxLen := by rw [ByteArray.size_extract]; omega
      obtain ⟨vs, hvs⟩ : ∃ vs, valP L (s.extract 0 (k + 1)) = vs := ⟨_, rfl⟩
      cases ha : L.any (fun x => sameS x.1 (s.extract 0 (k + 1))) with
      | true =>
        have HE := Lib.hid (show longP L s n = (vs, true) by rw [Hn.out, HS.out, if_pos ha, hvs])
        go_wp2_with (at_lookup; refine wpList_lookup_pairs _ rfl _ _ rfl b _ rfl h _ vs true rfl hq hvs ha ?_)
        go_ret2
        exact ⟨by rw [HE.out]; rfl, rfl⟩
      | false =>
        have HE := Lib.hid (show longP L s n = longP L s k by rw [Hn.out, HS.out, if_neg (by rw [ha]; decide)])
        go_wp2_with (at_lookup; refine wpList_lookup_pairs _ rfl _ _ rfl b _ rfl h _ vs false rfl hq hvs ha ?_)
        exact ⟨⟨k, by omega, by go_num, HE.out⟩, by simp [intOf]⟩

/-- The zone of a text, and whether there is one. -/
def findZ (l : List Zn) (s : ByteArray) : ByteArray × Bool := if checkZ l ≠ 0 then (ByteArray.empty, false) else if isNum s = false then (ByteArray.empty, false) else longP (prs l) s s.size

/-- A text and a truth. -/
def FoundTo (r : ByteArray × Bool) (w : World) (e : Ending) (w' : World) : Prop := e = .returned (.tuple #[.string r.1, .bool r.2]) ∧ Below w.heap.size w w'

theorem zfind_calls (v : Value) (l : List Zn) (s : ByteArray) (w : World) (h : ZnsAt w v l) (hs : s.size ≤ maxLen) : Calls Try.prog 48 #[v, .string s] w (FoundTo (findZ l s) w) := by
  have Hi := Lib.hid (index_calls v l w h)
  have Hv := Lib.hid (fun w1 => dvalid_calls s w1 hs)
  have Hl := Lib.hid (fun w1 b (h : OwnP w1 b (prs l)) => longest_calls b (prs l) s s.size w1 h hs (Nat.le_refl _))
  have HF := Lib.hid (show findZ l s = if checkZ l ≠ 0 then (ByteArray.empty, false) else if isNum s = false then (ByteArray.empty, false) else longP (prs l) s s.size from rfl)
  have hsl := hs
  unfold maxLen at hsl
  obtain ⟨av, cap, rfl, -, -, -⟩ := h
  go_enter Try.func48, Try.ntmps48
  go_wp2_with fail
  refine Hi.out.mono ?_
  rintro e w2 ⟨m, rfl, hb, h1, h2⟩
  generalize checkZ l = c at *
  by_cases hc : c = 0
  · subst hc
    obtain ⟨b, -, rfl, hO⟩ := h2 rfl
    have HF := Lib.hid (HF.out.trans (if_neg (by decide)))
    clear h1 h2
    have Hl := Lib.hid (Hl.out w2 b hO)
    cases hg : isNum s with
    | false =>
      rw [hg] at Hv
      have HF := Lib.hid (HF.out.trans (if_pos hg))
      go_wp2_with fail
      refine (Hv.out w2).mono ?_
      rintro e w3 ⟨rfl, rfl⟩
      go_wp2
      go_ret2
      exact ⟨by rw [HF.out]; rfl, hb⟩
    | true =>
      rw [hg] at Hv
      have HF := Lib.hid (HF.out.trans (if_neg (by rw [hg]; decide)))
      go_wp2_with fail
      refine (Hv.out w2).mono ?_
      rintro e w3 ⟨rfl, rfl⟩
      go_wp2_with fail
      refine Hl.out.mono ?_
      rintro e w3 ⟨rfl, rfl⟩
      go_wp2
      go_ret2
      exact ⟨by rw [HF.out]; rfl, hb⟩
  · have hz : (c != 0) = true := bne_iff_ne.2 hc
    have HF := Lib.hid (HF.out.trans (if_pos hc))
    obtain rfl := h1 hc
    go_wp2
    go_ret2
    exact ⟨by rw [HF.out]; rfl, hb⟩
end Go.Proofs.Ytnekgkmlodeckaa

namespace Go.Proofs.Ytnekgkmlodeckaa
open Go.RowKit Go.Maps

/-- Does a text begin with another one? -/
def begP (s p : ByteArray) : Bool := decide (p.size ≤ s.size) && sameS (s.extract 0 p.size) p
/-- The value of the first longest key that a text begins with, and its length. -/
def bestP (s : ByteArray) (L : List (ByteArray × ByteArray)) : ByteArray × Nat := L.foldl (fun a x => if a.2 < x.1.size ∧ begP s x.1 = true then (x.2, x.1.size) else a) (ByteArray.empty, 0)
theorem bestP_snoc (s : ByteArray) (L : List (ByteArray × ByteArray)) (x : ByteArray × ByteArray) : bestP s (L ++ [x]) = if (bestP s L).2 < x.1.size ∧ begP s x.1 = true then (x.2, x.1.size) else bestP s L := by
  unfold bestP
  rw [List.foldl_append]
  rfl

set_option maxHeartbeats 800000 in
theorem hasprefix_calls (s p : ByteArray) (w : World) : Calls Try.prog 125 #[.string s, .string p] w fun e w' => e = .returned (.bool (begP s p)) ∧ w = w' := by
  have HB := Lib.hid (show begP s p = (decide (p.size ≤ s.size) && ((s.extract 0 p.size).toList == p.toList)) from rfl)
  by_cases h : p.size ≤ s.size
  · have h' : (p.size : Int) ≤ (s.size : Int) := by omega
    have HB := Lib.hid (HB.out.trans (by rw [decide_eq_true h]; rfl) : begP s p = ((s.extract 0 p.size).toList == p.toList))
    go_enter Try.func125, Try.ntmps125
    go_wp2
    go_ret
    exact ⟨ret_bool HB.out.symm, rfl⟩
  · have h' : ¬ (p.size : Int) ≤ (s.size : Int) := by omega
    have HB := Lib.hid (HB.out.trans (by rw [decide_eq_false h]; rfl) : begP s p = false)
    go_enter Try.func125, Try.ntmps125
    go_wp2
    go_ret
    exact ⟨ret_bool HB.out.symm, rfl⟩

set_option maxRecDepth 100000 in
set_option maxHeartbeats 6400000 in
theorem rfind_calls (v : Value) (l : List Zn) (s : ByteArray) (w : World) (h : ZnsAt w v l) :
    Calls Try.prog 89 #[v, .string s] w fun e w' => e = .returned (.string (bestP s (prs l)).1) ∧ w = w' := by
  have hB := h
  obtain ⟨av, cap, rfl, hlc, hm, -⟩ := h
  have hm := hm.1
  unfold maxLen at hm
  go_enter Try.func89, Try.ntmps89
  go_wp2_with fail
  go_loop [5, 6, 7] (fun a n x => ∃ i : Nat, i ≤ l.length ∧ x = .int .i64 i ∧ a = .string (bestP s (prs (l.take i))).1 ∧ n = .int .i64 (bestP s (prs (l.take i))).2) (fun _ _ x => l.length - (intOf x).toNat)
  case atStart => exact ⟨0, Nat.zero_le _, rfl, rfl, rfl⟩
  case round =>
    obtain ⟨i, hi, rfl, rfl, rfl⟩ := hrel
    by_cases hlt : i < l.length
    · have HPT := Lib.hid (prs_take l i hlt)
      obtain ⟨av2, cap2, e2, -, -, hx⟩ := id hB
      cases e2
      obtain ⟨b, o, rfl, hBb, hx⟩ := hx (by rintro rfl; cases hlt)
      obtain ⟨⟨c0, s0⟩, sv, c1, hsl⟩ := hx i hlt
      have hi0 : (0 : Int) ≤ (i : Int) := Int.natCast_nonneg _
      have hi1 : (i : Int) < (l.length : Int) := by omega
      clear hx
      generalize l[i] = y at *
      obtain ⟨nm, ps⟩ := y
      dsimp only at c0 c1 hsl s0 HPT
      have hs0 := hsl
      obtain ⟨asv, cs, rfl, hsc, hms, -⟩ := hs0
      have hms := hms.1
      unfold maxLen at hms
      obtain ⟨PR, hPR⟩ : ∃ PR, PR = prs (l.take i) := ⟨_, rfl⟩
      rw [← hPR] at HPT ⊢
      clear hPR
      go_wp2_with fail
      go_loop [5, 6, 8] (fun a n x => ∃ k : Nat, k ≤ ps.length ∧ x = .int .i64 k ∧ a = .string (bestP s (PR ++ (ps.take k).map fun p => (p, nm))).1 ∧ n = .int .i64 (bestP s (PR ++ (ps.take k).map fun p => (p, nm))).2) (fun _ _ x => ps.length - (intOf x).toNat)
      case atStart => exact ⟨0, Nat.zero_le _, rfl, by simp, by simp⟩
      case round =>
        obtain ⟨k, hk, rfl, rfl, rfl⟩ := hrel
        by_cases hkl : k < ps.length
        · have HS := Lib.hid (show bestP s (PR ++ (ps.take (k + 1)).map fun p => (p, nm)) = if (bestP s (PR ++ (ps.take k).map fun p => (p, nm))).2 < ps[k].size ∧ begP s ps[k] = true then (nm, ps[k].size) else bestP s (PR ++ (ps.take k).map fun p => (p, nm)) by
            rw [List.take_succ_eq_append_getElem hkl, List.map_append, ← List.append_assoc]; exact bestP_snoc _ _ _)
          obtain ⟨av4, cap4, e4, -, -, hy⟩ := id hsl
          cases e4
          obtain ⟨b4, o4, rfl, hB4, hy⟩ := hy (by rintro rfl; cases hkl)
          obtain ⟨d0, ds⟩ := hy k hkl
          rw [Nat.mul_one] at d0
          have hk0 : (0 : Int) ≤ (k : Int) := Int.natCast_nonneg _
          have hk1 : (k : Int) < (ps.length : Int) := by omega
          clear hy
          generalize ps[k] = q at *
          generalize bestP s (PR ++ (ps.take k).map fun p => (p, nm)) = A at *
          obtain ⟨a, n⟩ := A
          dsimp only at HS ⊢
          have HV := Lib.hid (fun w1 => hasprefix_calls s q w1)
          have hdq := ds
          unfold maxLen at hdq
          by_cases hn : n < q.size
          · have hn' : (n : Int) < (q.size : Int) := by omega
            cases hg : begP s q with
            | true =>
              rw [hg] at HV
              have HE := Lib.hid (HS.out.trans (if_pos ⟨hn, hg⟩))
              clear hg
              go_wp2_with fail
              refine (HV.out w).mono ?_
              rintro e w4 ⟨rfl, rfl⟩
              go_wp2
              exact ⟨⟨k + 1, by omega, by go_num, by rw [HE.out], by rw [HE.out]⟩, by simp [intOf]; omega⟩
            | false =>
              rw [hg] at HV
              have HE := Lib.hid (HS.out.trans (if_neg (fun h => by rw [hg] at h; cases h.2)))
              clear hg
              go_wp2_with fail
              refine (HV.out w).mono ?_
              rintro e w4 ⟨rfl, rfl⟩
              go_wp2
              exact ⟨⟨k + 1, by omega, by go_num, by rw [HE.out], by rw [HE.out]⟩, by simp [intOf]; omega⟩
          · have hn' : ¬ (n : Int) < (q.size : Int) := by omega
            have HE := Lib.hid (HS.out.trans (if_neg (fun h => hn h.1)))
            go_wp2
            exact ⟨⟨k + 1, by omega, by go_num, by rw [HE.out], by rw [HE.out]⟩, by simp [intOf]; omega⟩
        · have HE := Lib.hid (show PR ++ (ps.take k).map (fun p => (p, nm)) = prs (l.take (i + 1)) by rw [HPT.out, List.take_of_length_le (by omega)])
          rw [HE.out]
          go_wp2
          exact ⟨⟨i + 1, by omega, by go_num, rfl, rfl⟩, by simp [intOf]; omega⟩
    · have HE := Lib.hid (show l.take i = l from List.take_of_length_le (by omega))
      rw [HE.out]
      go_wp2
      go_ret
      exact ⟨rfl, rfl⟩

/-- The specification's zone of a text. -/
def rfindZ (l : List Zn) (s : ByteArray) : ByteArray × Bool :=
  if checkZ l ≠ 0 then (ByteArray.empty, false) else if isNum s = false then (ByteArray.empty, false) else ((bestP s (prs l)).1, !(bestP s (prs l)).1.toList.isEmpty)

theorem rFind_calls (v : Value) (l : List Zn) (s : ByteArray) (w : World) (h : ZnsAt w v l) (hs : s.size ≤ maxLen) : Calls Try.prog 49 #[v, .string s] w (FoundTo (rfindZ l s) w) := by
  have Hi := Lib.hid (rzcheck_calls v l w h)
  have Hv := Lib.hid (fun w1 => r2valid_calls s w1 hs)
  have Hl := Lib.hid (fun w1 (hb : Below w.heap.size w w1) => rfind_calls v l s w1 (h.below hb))
  have HF := Lib.hid (show rfindZ l s = if checkZ l ≠ 0 then (ByteArray.empty, false) else if isNum s = false then (ByteArray.empty, false) else ((bestP s (prs l)).1, !(bestP s (prs l)).1.toList.isEmpty) from rfl)
  obtain ⟨av, cap, rfl, -, -, -⟩ := h
  generalize checkZ l = c at *
  by_cases hc : c = 0
  · subst hc
    have HF := Lib.hid (HF.out.trans (if_neg (by decide)))
    cases hg : isNum s with
    | false =>
      rw [hg] at Hv
      have HF := Lib.hid (HF.out.trans (if_pos hg))
      go_enter Try.func49, Try.ntmps49
      go_wp2_with fail
      refine Hi.out.mono ?_
      rintro e w2 ⟨rfl, hb⟩
      go_wp2_with fail
      refine (Hv.out w2).mono ?_
      rintro e w3 ⟨rfl, rfl⟩
      go_wp2
      go_ret2
      exact ⟨by rw [HF.out]; rfl, hb⟩
    | true =>
      rw [hg] at Hv
      have HG := Lib.hid (HF.out.trans (if_neg (by rw [hg]; decide)))
      go_enter Try.func49, Try.ntmps49
      go_wp2_with fail
      refine Hi.out.mono ?_
      rintro e w2 ⟨rfl, hb⟩
      go_wp2_with fail
      refine (Hv.out w2).mono ?_
      rintro e w3 ⟨rfl, rfl⟩
      go_wp2_with fail
      refine (Hl.out w2 hb).mono ?_
      rintro e w3 ⟨rfl, rfl⟩
      generalize bestP s (prs l) = B at *
      obtain ⟨nm, n⟩ := B
      go_wp2
      go_ret2
      exact ⟨by rw [HG.out]; rfl, hb⟩
  · have hz : (c != 0) = true := bne_iff_ne.2 hc
    have HF := Lib.hid (HF.out.trans (if_pos hc))
    go_enter Try.func49, Try.ntmps49
    go_wp2_with fail
    refine Hi.out.mono ?_
    rintro e w2 ⟨rfl, hb⟩
    go_wp2
    go_ret2
    exact ⟨by rw [HF.out]; rfl, hb⟩
end Go.Proofs.Ytnekgkmlodeckaa

namespace Go.Proofs.Ytnekgkmlodeckaa
open Go.RowKit Go.Maps

theorem prefsE_ok : ∀ (ps seen : List ByteArray), prefsE seen ps = 0 → seen.Nodup → (seen ++ ps).Nodup ∧ ∀ p ∈ ps, isNum p = true
  | [], seen, _, hn => by rw [List.append_nil]; exact ⟨hn, fun p hp => by cases hp⟩
  | p :: r, seen, h, hn => by
    unfold prefsE at h
    by_cases h1 : isNum p = false
    · rw [if_pos h1] at h; exact absurd h (by decide)
    rw [if_neg h1] at h
    by_cases h2 : seen.any (fun x => sameS x p) = true
    · rw [if_pos h2] at h; exact absurd h (by decide)
    rw [if_neg h2] at h
    have hne : ∀ a ∈ seen, a ≠ p := fun a ha e => h2 (List.any_eq_true.2 ⟨a, ha, (sameS_iff _ _).2 e⟩)
    have ih := prefsE_ok r (seen ++ [p]) h (List.nodup_append.2 ⟨hn, by simp, fun a ha b hb => by simp only [List.mem_singleton] at hb; rw [hb]; exact hne a ha⟩)
    rw [List.append_assoc] at ih
    refine ⟨ih.1, fun q hq => ?_⟩
    rcases List.mem_cons.1 hq with rfl | hq
    · exact Bool.not_eq_false _ ▸ h1
    · exact ih.2 q hq

theorem allPr_append (a b : List Zn) : allPr (a ++ b) = allPr a ++ allPr b := List.flatMap_append
theorem allPr_one (z : Zn) : allPr [z] = z.2 := by simp [allPr]

/-- What a valid zone is. -/
def znOk (z : Zn) : Prop := isName z.1 = true ∧ 0 < z.2.length ∧ z.2.length ≤ 64 ∧ ∀ p ∈ z.2, isNum p = true
theorem zoneE_ok {pre : List Zn} {z : Zn} (h : zoneE pre z = 0) (hn : (allPr pre).Nodup) (hm : (pre.map (·.1)).Nodup) : znOk z ∧ (allPr (pre ++ [z])).Nodup ∧ ((pre ++ [z]).map (·.1)).Nodup := by
  unfold zoneE at h
  by_cases h1 : isName z.1 = false
  · rw [if_pos h1] at h; exact absurd h (by decide)
  rw [if_neg h1] at h
  by_cases h2 : pre.any (fun x => sameS x.1 z.1) = true
  · rw [if_pos h2] at h; exact absurd h (by decide)
  rw [if_neg h2] at h
  by_cases h3 : z.2.length = 0
  · rw [if_pos h3] at h; exact absurd h (by decide)
  rw [if_neg h3] at h
  by_cases h4 : 64 < z.2.length
  · rw [if_pos h4] at h; exact absurd h (by decide)
  rw [if_neg h4] at h
  have h5 := prefsE_ok _ _ h hn
  refine ⟨⟨Bool.not_eq_false _ ▸ h1, by omega, by omega, h5.2⟩, by rw [allPr_append, allPr_one]; exact h5.1, ?_⟩
  rw [List.map_append]
  refine List.nodup_append.2 ⟨hm, by simp, fun a ha b hb e => ?_⟩
  simp only [List.map_cons, List.map_nil, List.mem_singleton] at hb
  obtain ⟨x, hx, rfl⟩ := List.mem_map.1 ha
  exact h2 (List.any_eq_true.2 ⟨x, hx, (sameS_iff _ _).2 (e.trans hb)⟩)
theorem zonesE6_ok : ∀ (r pre : List Zn), zonesE6 pre r = 0 → (allPr pre).Nodup → (pre.map (·.1)).Nodup → (∀ z ∈ r, znOk z) ∧ (allPr (pre ++ r)).Nodup ∧ ((pre ++ r).map (·.1)).Nodup
  | [], pre, _, hn, hm => by rw [List.append_nil]; exact ⟨fun z hz => (by cases hz), hn, hm⟩
  | z :: r, pre, h, hn, hm => by
    unfold zonesE6 at h
    by_cases h1 : zoneE pre z ≠ 0
    · rw [if_pos h1] at h; exact absurd h h1
    rw [if_neg h1] at h
    have h2 := zoneE_ok (Decidable.not_not.1 h1) hn hm
    have ih := zonesE6_ok r (pre ++ [z]) h h2.2.1 h2.2.2
    rw [List.append_assoc] at ih
    refine ⟨fun q hq => ?_, ih.2⟩
    rcases List.mem_cons.1 hq with rfl | hq
    · exact h2.1
    · exact ih.1 q hq
theorem checkZ_ok {l : List Zn} (h : checkZ l = 0) : l.length ≤ 64 ∧ (∀ z ∈ l, znOk z) ∧ (allPr l).Nodup ∧ (l.map (·.1)).Nodup := by
  unfold checkZ at h
  by_cases h1 : 64 < l.length
  · rw [if_pos h1] at h; exact absurd h (by decide)
  rw [if_neg h1] at h
  have := zonesE6_ok l [] h (by simp [allPr]) (by simp)
  exact ⟨by omega, this.1, this.2⟩

theorem prs_keys (l : List Zn) : (prs l).map (·.1) = allPr l := by
  induction l with
  | nil => rfl
  | cons z r ih =>
    unfold prs allPr at *
    rw [List.flatMap_cons, List.flatMap_cons, List.map_append, ih, List.map_map]
    congr 1
    exact List.map_id _
theorem prs_mem {l : List Zn} {x : ByteArray × ByteArray} (h : x ∈ prs l) : ∃ z ∈ l, x.1 ∈ z.2 ∧ x.2 = z.1 := by
  obtain ⟨z, hz, hx⟩ := List.mem_flatMap.1 h
  obtain ⟨p, hp, rfl⟩ := List.mem_map.1 hx
  exact ⟨z, hz, hp, rfl⟩

theorem valP_at (L : List (ByteArray × ByteArray)) (hn : (L.map (·.1)).Nodup) (x : ByteArray × ByteArray) (hx : x ∈ L) : valP L x.1 = x.2 := by
  induction L using snocInd with
  | h0 => cases hx
  | h1 L y ih =>
    rw [List.map_append] at hn
    obtain ⟨n1, -, n3⟩ := List.nodup_append.1 hn
    rw [valP_snoc]
    rcases List.mem_append.1 hx with hx | hx
    · rw [if_neg (fun e => n3 x.1 (List.mem_map_of_mem hx) y.1 (by simp) ((sameS_iff _ _).1 e).symm), ih n1 hx]
    · simp only [List.mem_singleton] at hx
      rw [hx, if_pos ((sameS_iff _ _).2 rfl)]

theorem bestP_inv (s : ByteArray) (L : List (ByteArray × ByteArray)) : (∀ x ∈ L, begP s x.1 = true → x.1.size ≤ (bestP s L).2) ∧
    (bestP s L = (ByteArray.empty, 0) ∨ ∃ x ∈ L, begP s x.1 = true ∧ bestP s L = (x.2, x.1.size) ∧ 0 < x.1.size) := by
  induction L using snocInd with
  | h0 => exact ⟨fun x hx => (by cases hx), Or.inl rfl⟩
  | h1 L y ih =>
    rw [bestP_snoc]
    by_cases h : (bestP s L).2 < y.1.size ∧ begP s y.1 = true
    · rw [if_pos h]
      refine ⟨fun x hx hb => ?_, Or.inr ⟨y, by simp, h.2, rfl, by omega⟩⟩
      rcases List.mem_append.1 hx with hx | hx
      · have := ih.1 x hx hb; show x.1.size ≤ y.1.size; omega
      · simp only [List.mem_singleton] at hx
        rw [hx]; exact Nat.le_refl _
    · rw [if_neg h]
      refine ⟨fun x hx hb => ?_, ?_⟩
      · rcases List.mem_append.1 hx with hx | hx
        · exact ih.1 x hx hb
        · simp only [List.mem_singleton] at hx
          rw [hx] at hb ⊢
          exact Nat.le_of_not_lt fun hl => h ⟨hl, hb⟩
      · rcases ih.2 with h2 | ⟨x, hx, h2⟩
        · exact Or.inl h2
        · exact Or.inr ⟨x, List.mem_append_left _ hx, h2⟩

theorem begP_iff (s p : ByteArray) : begP s p = true ↔ p.size ≤ s.size ∧ s.extract 0 p.size = p := by
  unfold begP
  rw [Bool.and_eq_true, decide_eq_true_eq, sameS_iff]

theorem longP_none (L : List (ByteArray × ByteArray)) (s : ByteArray) : ∀ n : Nat, (∀ k, 0 < k → k ≤ n → L.any (fun x => sameS x.1 (s.extract 0 k)) = false) → longP L s n = (ByteArray.empty, false)
  | 0, _ => rfl
  | n + 1, h => by
    unfold longP
    rw [if_neg (by rw [h (n + 1) (by omega) (Nat.le_refl _)]; decide)]
    exact longP_none L s n fun k h1 h2 => h k h1 (by omega)
theorem longP_some (L : List (ByteArray × ByteArray)) (s : ByteArray) (m : Nat) (hm : 0 < m) (ha : L.any (fun x => sameS x.1 (s.extract 0 m)) = true) : ∀ n : Nat, m ≤ n → (∀ k, m < k → k ≤ n → L.any (fun x => sameS x.1 (s.extract 0 k)) = false) → longP L s n = (valP L (s.extract 0 m), true)
  | 0, h, _ => by omega
  | n + 1, h, hk => by
    unfold longP
    by_cases e : m = n + 1
    · rw [← e, if_pos ha]
    · rw [if_neg (by rw [hk (n + 1) (by omega) (Nat.le_refl _)]; decide)]
      exact longP_some L s m hm ha n (by omega) fun k h1 h2 => hk k h1 (by omega)

theorem any_beg {L : List (ByteArray × ByteArray)} {s : ByteArray} {k : Nat} (hk : k ≤ s.size) (h : L.any (fun x => sameS x.1 (s.extract 0 k)) = true) : ∃ x ∈ L, begP s x.1 = true ∧ x.1.size = k := by
  obtain ⟨x, hx, he⟩ := List.any_eq_true.1 h
  have he := (sameS_iff _ _).1 he
  have hz : x.1.size = k := by rw [he, ByteArray.size_extract]; omega
  exact ⟨x, hx, (begP_iff _ _).2 ⟨by omega, by rw [hz]; exact he.symm⟩, hz⟩

/-- The longest beginning, as the fold finds it. -/
theorem longP_best (L : List (ByteArray × ByteArray)) (s : ByteArray) (hn : (L.map (·.1)).Nodup) (hv : ∀ x ∈ L, 0 < x.2.size) :
    longP L s s.size = ((bestP s L).1, !(bestP s L).1.toList.isEmpty) := by
  obtain ⟨h1, h2⟩ := bestP_inv s L
  rcases h2 with h2 | ⟨x, hx, hb, h2, h0⟩
  · rw [h2] at h1 ⊢
    rw [longP_none]
    · rw [Lib.toList_data]; rfl
    · intro k hk hks
      cases ha : L.any (fun x => sameS x.1 (s.extract 0 k)) with
      | false => rfl
      | true =>
        obtain ⟨x, hx, hb, hz⟩ := any_beg hks ha
        have := h1 x hx hb
        simp only at this
        omega
  · rw [h2] at h1 ⊢
    simp only at h1 ⊢
    obtain ⟨g1, g2⟩ := (begP_iff _ _).1 hb
    rw [longP_some L s x.1.size h0 (List.any_eq_true.2 ⟨x, hx, (sameS_iff _ _).2 g2.symm⟩) s.size g1, g2, valP_at L hn x hx]
    · have h3 := hv x hx
      have h4 : x.2.toList.isEmpty = false := by
        rw [Lib.toList_data]
        cases h5 : x.2.data.toList with
        | nil => rw [show x.2.size = x.2.data.toList.length from rfl, h5] at h3; cases h3
        | cons a r => rfl
      rw [h4]; rfl
    · intro k hk hks
      cases ha : L.any (fun x => sameS x.1 (s.extract 0 k)) with
      | false => rfl
      | true =>
        obtain ⟨y, hy, hb, hz⟩ := any_beg hks ha
        have := h1 y hy hb
        omega

theorem isName_pos {s : ByteArray} (h : isName s = true) : 0 < s.size := by
  unfold isName at h
  rw [Bool.and_eq_true, Bool.and_eq_true, decide_eq_true_eq] at h
  exact h.1.1.1
theorem findZ_eq (l : List Zn) (s : ByteArray) : findZ l s = rfindZ l s := by
  unfold findZ rfindZ
  by_cases h : checkZ l ≠ 0
  · rw [if_pos h, if_pos h]
  rw [if_neg h, if_neg h]
  by_cases h2 : isNum s = false
  · rw [if_pos h2, if_pos h2]
  rw [if_neg h2, if_neg h2]
  obtain ⟨-, k1, k2, -⟩ := checkZ_ok (Decidable.not_not.1 h)
  refine longP_best _ s (by rw [prs_keys]; exact k2) fun x hx => ?_
  obtain ⟨z, hz, -, e⟩ := prs_mem hx
  rw [e]
  exact isName_pos (k1 z hz).1
end Go.Proofs.Ytnekgkmlodeckaa
