/-
  The walks of product.Check and of the reference's Check.
-/
import Derived.Test.YtmijdmchhlcblaaCheckOne
namespace Go.Proofs.Ytmijdmchhlcblaa
open Go.RowKit

/-- A product in six cells. -/
def PdR (w : World) (b o : Nat) (x : Pd) : Prop :=
  (w.cell? ⟨b, o, none⟩ = some (.string x.nm) ∧ x.nm.size ≤ maxLen) ∧ w.cell? ⟨b, o + 1, none⟩ = some (.int .i64 x.fm) ∧ w.cell? ⟨b, o + 2, none⟩ = some (.int .i64 x.fe) ∧ (w.cell? ⟨b, o + 3, none⟩ = some (.string x.ct) ∧ x.ct.size ≤ maxLen) ∧
    w.cell? ⟨b, o + 4, none⟩ = some (.bool x.pro) ∧ ∃ bv, w.cell? ⟨b, o + 5, none⟩ = some bv ∧ BdsAt w bv x.bs

theorem PdR.stays : Stays PdR := fun w w' b _ _ hb hB ⟨⟨h0, s0⟩, h1, h2, ⟨h3, s3⟩, h4, bv, h5, hz⟩ =>
  have c : ∀ j, w'.cell? ⟨b, j, none⟩ = w.cell? ⟨b, j, none⟩ := fun j => hb.cell (p := ⟨b, j, none⟩) hB
  ⟨⟨(c _).trans h0, s0⟩, (c _).trans h1, (c _).trans h2, ⟨(c _).trans h3, s3⟩, (c _).trans h4, bv, (c _).trans h5, hz.below hb⟩

def PdsAt (w : World) (v : Value) (l : List Pd) : Prop := SliceAt 6 PdR w v l
theorem PdsAt.below {w w' : World} {v : Value} {l : List Pd} (h : PdsAt w v l) (hb : Below w.heap.size w w') : PdsAt w' v l := SliceAt.below PdR.stays h hb

def prevP (l : List Pd) (k : Nat) : Option Pd := if k = 0 then none else l[k - 1]?

/-- The first error of products. -/
def checkE (l : List Pd) : Int := if 4096 < l.length then 5 else prodsE none l

theorem prodsE_end (l : List Pd) (k : Nat) (h : l.length ≤ k) (q : Option Pd) : prodsE q (l.drop k) = 0 := by
  rw [List.drop_of_length_le h]; cases q <;> rfl
theorem prodsE_zero (l : List Pd) (h : 0 < l.length) : prodsE (prevP l 0) (l.drop 0) = if prodE l[0] ≠ 0 then prodE l[0] else prodsE (prevP l 1) (l.drop 1) := by
  rw [List.drop_eq_getElem_cons h]
  show prodsE none _ = _
  rw [prodsE]
  have e : prevP l 1 = some l[0] := by simp [prevP, h]
  rw [e]; rfl
theorem prodsE_succ (l : List Pd) (k : Nat) (h : k + 1 < l.length) : prodsE (prevP l (k + 1)) (l.drop (k + 1)) =
    if prodE l[k + 1] ≠ 0 then prodE l[k + 1] else if nextBad l[k] l[k + 1] = true then 9 else prodsE (prevP l (k + 1 + 1)) (l.drop (k + 1 + 1)) := by
  rw [List.drop_eq_getElem_cons h]
  have e : prevP l (k + 1) = some l[k] := by simp [prevP, Nat.lt_of_succ_lt h]
  have e2 : prevP l (k + 1 + 1) = some l[k + 1] := by simp [prevP, h]
  rw [e, e2, prodsE]

theorem bad_eq {a b : Pd} {A E : Bool} (hA : Op.bytesLess a.nm.toList b.nm.toList = A) (hE : (a.nm.toList == b.nm.toList) = E) : nextBad a b = ((!A && !E) || (E && decide (b.fm ≤ a.fm))) := by
  unfold nextBad ltS eqS
  rw [hA, hE]

set_option maxRecDepth 100000 in
set_option maxHeartbeats 6400000 in
theorem pcheck_calls (v : Value) (l : List Pd) (w : World) (h : PdsAt w v l) :
    Calls Try.prog 18 #[v] w fun e w' => e = .returned (.int .i64 (checkE l)) ∧ Below w.heap.size w w' := by
  have hh := h
  obtain ⟨av, cap, rfl, hlc, hm, -⟩ := h
  have hm := hm.1
  unfold maxLen at hm
  by_cases hbig : 4096 < l.length
  · have H := Lib.hid (show checkE l = 5 from if_pos hbig)
    go_enter Try.func18, Try.ntmps18
    go_wp2
    go_ret
    exact ⟨ret_int H.out.symm, Below.refl _ _⟩
  · have H := Lib.hid (show checkE l = prodsE (prevP l 0) (l.drop 0) from if_neg hbig)
    go_enter Try.func18, Try.ntmps18
    go_wp2_with fail
    go_loopw [11] (fun i wr => ∃ k : Nat, k ≤ l.length ∧ i = .int .i64 k ∧ checkE l = prodsE (prevP l k) (l.drop k) ∧ Below w.heap.size w wr) (fun i _ => l.length - (intOf i).toNat)
    case atStart => exact ⟨0, Nat.zero_le _, rfl, H.out, Below.refl _ _⟩
    case round =>
      obtain ⟨k, hk, rfl, he, hb⟩ := hrel
      by_cases hlk : k < l.length
      · obtain ⟨av2, cap2, e2, -, -, hx⟩ := hh.below hb
        cases e2
        obtain ⟨b, o, rfl, hB, hx⟩ := hx (by rintro rfl; cases hlk)
        have hxk := hx k hlk
        have hk0 : (0 : Int) ≤ (k : Int) := Int.natCast_nonneg _
        have hk1 : (k : Int) < (l.length : Int) := by omega
        match k, hk, he, hlk, hxk, hk0, hk1 with
        | 0, hk, he, hlk, hxk, hk0, hk1 =>
          have hst := prodsE_zero l hlk
          rw [← he] at hst
          clear hx he
          generalize l[0] = x at *
          obtain ⟨⟨c0, s0⟩, c1, c2, ⟨c3, s3⟩, c4, bv, c5, hz⟩ := id hxk
          obtain ⟨az, cz, rfl, hzz⟩ := id hz
          clear hzz
          simp only [Nat.zero_mul, Nat.add_zero] at c0 c1 c2 c3 c4 c5
          have Hxk := Lib.hid hxk
          have Hst := Lib.hid hst
          clear hst hxk
          obtain ⟨X, hX⟩ : ∃ X, X = wr.alloc (Obj.cells #[Value.string x.nm, Value.int .i64 x.fm, Value.int .i64 x.fe, Value.string x.ct, Value.bool x.pro, .slice az x.bs.length cz] 33) := ⟨_, rfl⟩
          have hbX : Below wr.heap.size wr X := by rw [hX]; go_grown
          have hlX : wr.heap.size < X.heap.size := by rw [hX]; simp
          have y0 : X.cell? ⟨wr.heap.size, 0, none⟩ = some (Value.string x.nm) := by rw [hX]; simp [go_sem]
          have y1 : X.cell? ⟨wr.heap.size, 1, none⟩ = some (Value.int .i64 x.fm) := by rw [hX]; simp [go_sem]
          have HX := Lib.hid hX
          clear hX
          have Hc := Lib.hid (check_calls x _ X s0 s3 (hz.below hbX))
          unfold pdVal at Hc
          by_cases hz0 : prodE x = 0
          · have HE := Lib.hid (show checkE l = prodsE (prevP l 1) (l.drop 1) by rw [Hst.out, if_neg (not_not_intro hz0)])
            have HZ := Lib.hid hz0
            clear hz0
            go_wp2_with fail
            rw [← HX.out]
            refine Hc.out.mono ?_
            rintro e w2 ⟨rfl, hb2⟩
            rw [HZ.out]
            have hb3 := hbX.trans (hb2.mono hbX.size)
            have hb4 := hb.trans (hb3.mono hb.size)
            clear hb2 hb3
            go_wp2_with fail
            go_quiet (fail)
            go_wp2
            exact ⟨⟨1, by omega, rfl, HE.out, below_drewN hb4 _⟩, by simp [intOf]; omega⟩
          · have HE := Lib.hid (show checkE l = prodE x by rw [Hst.out, if_pos hz0])
            have hz2 : (prodE x != 0) = true := by rw [bne_iff_ne]; exact hz0
            clear hz0
            go_wp2_with fail
            rw [← HX.out]
            refine Hc.out.mono ?_
            rintro e w2 ⟨rfl, hb2⟩
            have hb3 := hbX.trans (hb2.mono hbX.size)
            have hb4 := hb.trans (hb3.mono hb.size)
            clear hb2 hb3
            go_wp2
            go_ret
            exact ⟨ret_int HE.out.symm, hb4⟩
        | k + 1, hk, he, hlk, hxk, hk0, hk1 =>
          have hst := prodsE_succ l k hlk
          rw [← he] at hst
          have hxp := hx k (by omega)
          clear hx he
          generalize l[k + 1] = x at *
          generalize l[k] = y at *
          obtain ⟨⟨c0, s0⟩, c1, c2, ⟨c3, s3⟩, c4, bv, c5, hz⟩ := id hxk
          obtain ⟨az, cz, rfl, hzz⟩ := id hz
          clear hzz
          have Hst := Lib.hid hst
          clear hst
          obtain ⟨X, hX⟩ : ∃ X, X = wr.alloc (Obj.cells #[Value.string x.nm, Value.int .i64 x.fm, Value.int .i64 x.fe, Value.string x.ct, Value.bool x.pro, .slice az x.bs.length cz] 33) := ⟨_, rfl⟩
          have hbX : Below wr.heap.size wr X := by rw [hX]; go_grown
          have hlX : wr.heap.size < X.heap.size := by rw [hX]; simp
          have y0 : X.cell? ⟨wr.heap.size, 0, none⟩ = some (Value.string x.nm) := by rw [hX]; simp [go_sem]
          have y1 : X.cell? ⟨wr.heap.size, 1, none⟩ = some (Value.int .i64 x.fm) := by rw [hX]; simp [go_sem]
          have HX := Lib.hid hX
          clear hX
          have Hc := Lib.hid (check_calls x _ X s0 s3 (hz.below hbX))
          unfold pdVal at Hc
          by_cases hz0 : prodE x = 0
          · have HZ := Lib.hid hz0
            cases hA : Op.bytesLess y.nm.toList x.nm.toList <;> cases hE : (y.nm.toList == x.nm.toList)
            · have hbd := bad_eq hA hE
              have HE := Lib.hid (show checkE l = 9 by rw [Hst.out, if_neg (not_not_intro hz0), hbd]; rfl)
              clear hz0 hbd
              go_wp2_with fail
              rw [← HX.out]
              refine Hc.out.mono ?_
              rintro e w2 ⟨rfl, hb2⟩
              rw [HZ.out]
              have hb3 := hbX.trans (hb2.mono hbX.size)
              have hb4 := hb.trans (hb3.mono hb.size)
              have z0 := (hb2.cell (p := ⟨wr.heap.size, 0, none⟩) hlX).trans y0
              have z1 := (hb2.cell (p := ⟨wr.heap.size, 1, none⟩) hlX).trans y1
              obtain ⟨⟨q0, -⟩, q1, -⟩ := PdR.stays _ _ _ _ _ hb3 hB hxp
              have Hxx := Lib.hid (And.intro hxk hxp)
              clear hb2 hb3 hxk hxp
              go_wp2_with fail
              have hj5 : IntKind.i64.wrap ((k : Int) + 1 - 1) = (k : Int) := by rw [Int.add_sub_cancel]; exact IntWalk.i64_in _ (by omega)
              have hj6 : ((k : Int) + 1).toNat = k + 1 := by omega
              have hj7 : IntKind.i64.wrap (k : Int) = (k : Int) := IntWalk.i64_in _ (by omega)
              have hj8 : (0 : Int) < (k : Int) + 1 := by omega
              go_quiet (fail)
              clear hj5 hj6 hj7 hj8
              go_wp2
              go_ret
              exact ⟨ret_int HE.out.symm, below_drewN hb4 _⟩
            · have hbd := bad_eq hA hE
              by_cases hF : x.fm ≤ y.fm
              · skip
                have HE := Lib.hid (show checkE l = 9 by rw [Hst.out, if_neg (not_not_intro hz0), hbd]; simp [hF])
                clear hz0 hbd
                go_wp2_with fail
                rw [← HX.out]
                refine Hc.out.mono ?_
                rintro e w2 ⟨rfl, hb2⟩
                rw [HZ.out]
                have hb3 := hbX.trans (hb2.mono hbX.size)
                have hb4 := hb.trans (hb3.mono hb.size)
                have z0 := (hb2.cell (p := ⟨wr.heap.size, 0, none⟩) hlX).trans y0
                have z1 := (hb2.cell (p := ⟨wr.heap.size, 1, none⟩) hlX).trans y1
                obtain ⟨⟨q0, -⟩, q1, -⟩ := PdR.stays _ _ _ _ _ hb3 hB hxp
                have Hxx := Lib.hid (And.intro hxk hxp)
                clear hb2 hb3 hxk hxp
                go_wp2_with fail
                have hj5 : IntKind.i64.wrap ((k : Int) + 1 - 1) = (k : Int) := by rw [Int.add_sub_cancel]; exact IntWalk.i64_in _ (by omega)
                have hj6 : ((k : Int) + 1).toNat = k + 1 := by omega
                have hj7 : IntKind.i64.wrap (k : Int) = (k : Int) := IntWalk.i64_in _ (by omega)
                have hj8 : (0 : Int) < (k : Int) + 1 := by omega
                go_quiet (fail)
                clear hj5 hj6 hj7 hj8
                go_wp2
                go_ret
                exact ⟨ret_int HE.out.symm, below_drewN hb4 _⟩
              · skip
                have HE := Lib.hid (show checkE l = prodsE (prevP l (k + 1 + 1)) (l.drop (k + 1 + 1)) by rw [Hst.out, if_neg (not_not_intro hz0), hbd]; simp [hF])
                clear hz0 hbd
                go_wp2_with fail
                rw [← HX.out]
                refine Hc.out.mono ?_
                rintro e w2 ⟨rfl, hb2⟩
                rw [HZ.out]
                have hb3 := hbX.trans (hb2.mono hbX.size)
                have hb4 := hb.trans (hb3.mono hb.size)
                have z0 := (hb2.cell (p := ⟨wr.heap.size, 0, none⟩) hlX).trans y0
                have z1 := (hb2.cell (p := ⟨wr.heap.size, 1, none⟩) hlX).trans y1
                obtain ⟨⟨q0, -⟩, q1, -⟩ := PdR.stays _ _ _ _ _ hb3 hB hxp
                have Hxx := Lib.hid (And.intro hxk hxp)
                clear hb2 hb3 hxk hxp
                go_wp2_with fail
                have hj5 : IntKind.i64.wrap ((k : Int) + 1 - 1) = (k : Int) := by rw [Int.add_sub_cancel]; exact IntWalk.i64_in _ (by omega)
                have hj6 : ((k : Int) + 1).toNat = k + 1 := by omega
                have hj7 : IntKind.i64.wrap (k : Int) = (k : Int) := IntWalk.i64_in _ (by omega)
                have hj8 : (0 : Int) < (k : Int) + 1 := by omega
                go_quiet (fail)
                clear hj5 hj6 hj7 hj8
                go_wp2
                exact ⟨⟨k + 1 + 1, by omega, by go_num, HE.out, below_drewN hb4 _⟩, by simp [intOf]; omega⟩
            · have hbd := bad_eq hA hE
              have HE := Lib.hid (show checkE l = prodsE (prevP l (k + 1 + 1)) (l.drop (k + 1 + 1)) by rw [Hst.out, if_neg (not_not_intro hz0), hbd]; rfl)
              clear hz0 hbd
              go_wp2_with fail
              rw [← HX.out]
              refine Hc.out.mono ?_
              rintro e w2 ⟨rfl, hb2⟩
              rw [HZ.out]
              have hb3 := hbX.trans (hb2.mono hbX.size)
              have hb4 := hb.trans (hb3.mono hb.size)
              have z0 := (hb2.cell (p := ⟨wr.heap.size, 0, none⟩) hlX).trans y0
              have z1 := (hb2.cell (p := ⟨wr.heap.size, 1, none⟩) hlX).trans y1
              obtain ⟨⟨q0, -⟩, q1, -⟩ := PdR.stays _ _ _ _ _ hb3 hB hxp
              have Hxx := Lib.hid (And.intro hxk hxp)
              clear hb2 hb3 hxk hxp
              go_wp2_with fail
              have hj5 : IntKind.i64.wrap ((k : Int) + 1 - 1) = (k : Int) := by rw [Int.add_sub_cancel]; exact IntWalk.i64_in _ (by omega)
              have hj6 : ((k : Int) + 1).toNat = k + 1 := by omega
              have hj7 : IntKind.i64.wrap (k : Int) = (k : Int) := IntWalk.i64_in _ (by omega)
              have hj8 : (0 : Int) < (k : Int) + 1 := by omega
              go_quiet (fail)
              clear hj5 hj6 hj7 hj8
              go_wp2
              exact ⟨⟨k + 1 + 1, by omega, by go_num, HE.out, below_drewN hb4 _⟩, by simp [intOf]; omega⟩
            · have hbd := bad_eq hA hE
              by_cases hF : x.fm ≤ y.fm
              · skip
                have HE := Lib.hid (show checkE l = 9 by rw [Hst.out, if_neg (not_not_intro hz0), hbd]; simp [hF])
                clear hz0 hbd
                go_wp2_with fail
                rw [← HX.out]
                refine Hc.out.mono ?_
                rintro e w2 ⟨rfl, hb2⟩
                rw [HZ.out]
                have hb3 := hbX.trans (hb2.mono hbX.size)
                have hb4 := hb.trans (hb3.mono hb.size)
                have z0 := (hb2.cell (p := ⟨wr.heap.size, 0, none⟩) hlX).trans y0
                have z1 := (hb2.cell (p := ⟨wr.heap.size, 1, none⟩) hlX).trans y1
                obtain ⟨⟨q0, -⟩, q1, -⟩ := PdR.stays _ _ _ _ _ hb3 hB hxp
                have Hxx := Lib.hid (And.intro hxk hxp)
                clear hb2 hb3 hxk hxp
                go_wp2_with fail
                have hj5 : IntKind.i64.wrap ((k : Int) + 1 - 1) = (k : Int) := by rw [Int.add_sub_cancel]; exact IntWalk.i64_in _ (by omega)
                have hj6 : ((k : Int) + 1).toNat = k + 1 := by omega
                have hj7 : IntKind.i64.wrap (k : Int) = (k : Int) := IntWalk.i64_in _ (by omega)
                have hj8 : (0 : Int) < (k : Int) + 1 := by omega
                go_quiet (fail)
                clear hj5 hj6 hj7 hj8
                go_wp2
                go_ret
                exact ⟨ret_int HE.out.symm, below_drewN hb4 _⟩
              · skip
                have HE := Lib.hid (show checkE l = prodsE (prevP l (k + 1 + 1)) (l.drop (k + 1 + 1)) by rw [Hst.out, if_neg (not_not_intro hz0), hbd]; simp [hF])
                clear hz0 hbd
                go_wp2_with fail
                rw [← HX.out]
                refine Hc.out.mono ?_
                rintro e w2 ⟨rfl, hb2⟩
                rw [HZ.out]
                have hb3 := hbX.trans (hb2.mono hbX.size)
                have hb4 := hb.trans (hb3.mono hb.size)
                have z0 := (hb2.cell (p := ⟨wr.heap.size, 0, none⟩) hlX).trans y0
                have z1 := (hb2.cell (p := ⟨wr.heap.size, 1, none⟩) hlX).trans y1
                obtain ⟨⟨q0, -⟩, q1, -⟩ := PdR.stays _ _ _ _ _ hb3 hB hxp
                have Hxx := Lib.hid (And.intro hxk hxp)
                clear hb2 hb3 hxk hxp
                go_wp2_with fail
                have hj5 : IntKind.i64.wrap ((k : Int) + 1 - 1) = (k : Int) := by rw [Int.add_sub_cancel]; exact IntWalk.i64_in _ (by omega)
                have hj6 : ((k : Int) + 1).toNat = k + 1 := by omega
                have hj7 : IntKind.i64.wrap (k : Int) = (k : Int) := IntWalk.i64_in _ (by omega)
                have hj8 : (0 : Int) < (k : Int) + 1 := by omega
                go_quiet (fail)
                clear hj5 hj6 hj7 hj8
                go_wp2
                exact ⟨⟨k + 1 + 1, by omega, by go_num, HE.out, below_drewN hb4 _⟩, by simp [intOf]; omega⟩
          · have HE := Lib.hid (show checkE l = prodE x by rw [Hst.out, if_pos hz0])
            have hz2 : (prodE x != 0) = true := by rw [bne_iff_ne]; exact hz0
            clear hz0
            go_wp2_with fail
            rw [← HX.out]
            refine Hc.out.mono ?_
            rintro e w2 ⟨rfl, hb2⟩
            have hb3 := hbX.trans (hb2.mono hbX.size)
            have hb4 := hb.trans (hb3.mono hb.size)
            clear hb2 hb3
            go_wp2
            go_ret
            exact ⟨ret_int HE.out.symm, hb4⟩
      · have H := Lib.hid (show checkE l = 0 by rw [he, prodsE_end l k (by omega)])
        clear he
        go_wp2
        go_ret
        exact ⟨ret_int H.out.symm, hb⟩

set_option maxRecDepth 100000 in
set_option maxHeartbeats 6400000 in
theorem rpcheck_calls (v : Value) (l : List Pd) (w : World) (h : PdsAt w v l) :
    Calls Try.prog 19 #[v] w fun e w' => e = .returned (.int .i64 (checkE l)) ∧ Below w.heap.size w w' := by
  have hh := h
  obtain ⟨av, cap, rfl, hlc, hm, -⟩ := h
  have hm := hm.1
  unfold maxLen at hm
  by_cases hbig : 4096 < l.length
  · have H := Lib.hid (show checkE l = 5 from if_pos hbig)
    go_enter Try.func19, Try.ntmps19
    go_wp2
    go_ret
    exact ⟨ret_int H.out.symm, Below.refl _ _⟩
  · have H := Lib.hid (show checkE l = prodsE (prevP l 0) (l.drop 0) from if_neg hbig)
    go_enter Try.func19, Try.ntmps19
    go_wp2_with fail
    go_loopw [3] (fun i wr => ∃ k : Nat, k ≤ l.length ∧ i = .int .i64 k ∧ checkE l = prodsE (prevP l k) (l.drop k) ∧ Below w.heap.size w wr) (fun i _ => l.length - (intOf i).toNat)
    case atStart => exact ⟨0, Nat.zero_le _, rfl, H.out, Below.refl _ _⟩
    case round =>
      obtain ⟨k, hk, rfl, he, hb⟩ := hrel
      by_cases hlk : k < l.length
      · obtain ⟨av2, cap2, e2, -, -, hx⟩ := hh.below hb
        cases e2
        obtain ⟨b, o, rfl, hB, hx⟩ := hx (by rintro rfl; cases hlk)
        have hxk := hx k hlk
        have hk0 : (0 : Int) ≤ (k : Int) := Int.natCast_nonneg _
        have hk1 : (k : Int) < (l.length : Int) := by omega
        match k, hk, he, hlk, hxk, hk0, hk1 with
        | 0, hk, he, hlk, hxk, hk0, hk1 =>
          have hst := prodsE_zero l hlk
          rw [← he] at hst
          clear hx he
          generalize l[0] = x at *
          obtain ⟨⟨c0, s0⟩, c1, c2, ⟨c3, s3⟩, c4, bv, c5, hz⟩ := id hxk
          obtain ⟨az, cz, rfl, hzz⟩ := id hz
          clear hzz
          simp only [Nat.zero_mul, Nat.add_zero] at c0 c1 c2 c3 c4 c5
          have Hxk := Lib.hid hxk
          have Hst := Lib.hid hst
          clear hst hxk
          obtain ⟨X, rfl⟩ : ∃ X, X = wr := ⟨_, rfl⟩
          have hbX : Below X.heap.size X X := Below.refl _ _
          have Hc := Lib.hid (one_calls x _ X s0 s3 (hz.below hbX))
          unfold pdVal at Hc
          by_cases hz0 : prodE x = 0
          · have HE := Lib.hid (show checkE l = prodsE (prevP l 1) (l.drop 1) by rw [Hst.out, if_neg (not_not_intro hz0)])
            have HZ := Lib.hid hz0
            clear hz0
            go_wp2_with fail
            refine Hc.out.mono ?_
            rintro e w2 ⟨rfl, hb2⟩
            rw [HZ.out]
            have hb3 := hbX.trans (hb2.mono hbX.size)
            have hb4 := hb.trans (hb3.mono hb.size)
            clear hb2 hb3
            go_wp2_with fail
            go_quiet (fail)
            go_wp2
            exact ⟨⟨1, by omega, rfl, HE.out, below_drewN hb4 _⟩, by simp [intOf]; omega⟩
          · have HE := Lib.hid (show checkE l = prodE x by rw [Hst.out, if_pos hz0])
            have hz2 : (prodE x != 0) = true := by rw [bne_iff_ne]; exact hz0
            clear hz0
            go_wp2_with fail
            refine Hc.out.mono ?_
            rintro e w2 ⟨rfl, hb2⟩
            have hb3 := hbX.trans (hb2.mono hbX.size)
            have hb4 := hb.trans (hb3.mono hb.size)
            clear hb2 hb3
            go_wp2
            go_ret
            exact ⟨ret_int HE.out.symm, hb4⟩
        | k + 1, hk, he, hlk, hxk, hk0, hk1 =>
          have hst := prodsE_succ l k hlk
          rw [← he] at hst
          have hxp := hx k (by omega)
          clear hx he
          generalize l[k + 1] = x at *
          generalize l[k] = y at *
          obtain ⟨⟨c0, s0⟩, c1, c2, ⟨c3, s3⟩, c4, bv, c5, hz⟩ := id hxk
          obtain ⟨az, cz, rfl, hzz⟩ := id hz
          clear hzz
          have Hst := Lib.hid hst
          clear hst
          obtain ⟨X, rfl⟩ : ∃ X, X = wr := ⟨_, rfl⟩
          have hbX : Below X.heap.size X X := Below.refl _ _
          have Hc := Lib.hid (one_calls x _ X s0 s3 (hz.below hbX))
          unfold pdVal at Hc
          by_cases hz0 : prodE x = 0
          · have HZ := Lib.hid hz0
            cases hA : Op.bytesLess y.nm.toList x.nm.toList <;> cases hE : (y.nm.toList == x.nm.toList)
            · have hbd := bad_eq hA hE
              have HE := Lib.hid (show checkE l = 9 by rw [Hst.out, if_neg (not_not_intro hz0), hbd]; rfl)
              clear hz0 hbd
              go_wp2_with fail
              refine Hc.out.mono ?_
              rintro e w2 ⟨rfl, hb2⟩
              rw [HZ.out]
              have hb3 := hbX.trans (hb2.mono hbX.size)
              have hb4 := hb.trans (hb3.mono hb.size)
              obtain ⟨⟨d0, -⟩, d1, -⟩ := PdR.stays _ _ _ _ _ hb3 hB hxk
              obtain ⟨⟨q0, -⟩, q1, -⟩ := PdR.stays _ _ _ _ _ hb3 hB hxp
              have Hxx := Lib.hid (And.intro hxk hxp)
              clear hb2 hb3 hxk hxp
              go_wp2_with fail
              have hj5 : IntKind.i64.wrap ((k : Int) + 1 - 1) = (k : Int) := by rw [Int.add_sub_cancel]; exact IntWalk.i64_in _ (by omega)
              have hj6 : ((k : Int) + 1).toNat = k + 1 := by omega
              have hj7 : IntKind.i64.wrap (k : Int) = (k : Int) := IntWalk.i64_in _ (by omega)
              have hj8 : (0 : Int) < (k : Int) + 1 := by omega
              go_quiet (fail)
              clear hj5 hj6 hj7 hj8
              go_wp2
              go_ret
              exact ⟨ret_int HE.out.symm, below_drewN hb4 _⟩
            · have hbd := bad_eq hA hE
              by_cases hF : x.fm ≤ y.fm
              · skip
                have HE := Lib.hid (show checkE l = 9 by rw [Hst.out, if_neg (not_not_intro hz0), hbd]; simp [hF])
                clear hz0 hbd
                go_wp2_with fail
                refine Hc.out.mono ?_
                rintro e w2 ⟨rfl, hb2⟩
                rw [HZ.out]
                have hb3 := hbX.trans (hb2.mono hbX.size)
                have hb4 := hb.trans (hb3.mono hb.size)
                obtain ⟨⟨d0, -⟩, d1, -⟩ := PdR.stays _ _ _ _ _ hb3 hB hxk
                obtain ⟨⟨q0, -⟩, q1, -⟩ := PdR.stays _ _ _ _ _ hb3 hB hxp
                have Hxx := Lib.hid (And.intro hxk hxp)
                clear hb2 hb3 hxk hxp
                go_wp2_with fail
                have hj5 : IntKind.i64.wrap ((k : Int) + 1 - 1) = (k : Int) := by rw [Int.add_sub_cancel]; exact IntWalk.i64_in _ (by omega)
                have hj6 : ((k : Int) + 1).toNat = k + 1 := by omega
                have hj7 : IntKind.i64.wrap (k : Int) = (k : Int) := IntWalk.i64_in _ (by omega)
                have hj8 : (0 : Int) < (k : Int) + 1 := by omega
                go_quiet (fail)
                clear hj5 hj6 hj7 hj8
                go_wp2
                go_ret
                exact ⟨ret_int HE.out.symm, below_drewN hb4 _⟩
              · skip
                have HE := Lib.hid (show checkE l = prodsE (prevP l (k + 1 + 1)) (l.drop (k + 1 + 1)) by rw [Hst.out, if_neg (not_not_intro hz0), hbd]; simp [hF])
                clear hz0 hbd
                go_wp2_with fail
                refine Hc.out.mono ?_
                rintro e w2 ⟨rfl, hb2⟩
                rw [HZ.out]
                have hb3 := hbX.trans (hb2.mono hbX.size)
                have hb4 := hb.trans (hb3.mono hb.size)
                obtain ⟨⟨d0, -⟩, d1, -⟩ := PdR.stays _ _ _ _ _ hb3 hB hxk
                obtain ⟨⟨q0, -⟩, q1, -⟩ := PdR.stays _ _ _ _ _ hb3 hB hxp
                have Hxx := Lib.hid (And.intro hxk hxp)
                clear hb2 hb3 hxk hxp
                go_wp2_with fail
                have hj5 : IntKind.i64.wrap ((k : Int) + 1 - 1) = (k : Int) := by rw [Int.add_sub_cancel]; exact IntWalk.i64_in _ (by omega)
                have hj6 : ((k : Int) + 1).toNat = k + 1 := by omega
                have hj7 : IntKind.i64.wrap (k : Int) = (k : Int) := IntWalk.i64_in _ (by omega)
                have hj8 : (0 : Int) < (k : Int) + 1 := by omega
                go_quiet (fail)
                clear hj5 hj6 hj7 hj8
                go_wp2
                exact ⟨⟨k + 1 + 1, by omega, by go_num, HE.out, below_drewN hb4 _⟩, by simp [intOf]; omega⟩
            · have hbd := bad_eq hA hE
              have HE := Lib.hid (show checkE l = prodsE (prevP l (k + 1 + 1)) (l.drop (k + 1 + 1)) by rw [Hst.out, if_neg (not_not_intro hz0), hbd]; rfl)
              clear hz0 hbd
              go_wp2_with fail
              refine Hc.out.mono ?_
              rintro e w2 ⟨rfl, hb2⟩
              rw [HZ.out]
              have hb3 := hbX.trans (hb2.mono hbX.size)
              have hb4 := hb.trans (hb3.mono hb.size)
              obtain ⟨⟨d0, -⟩, d1, -⟩ := PdR.stays _ _ _ _ _ hb3 hB hxk
              obtain ⟨⟨q0, -⟩, q1, -⟩ := PdR.stays _ _ _ _ _ hb3 hB hxp
              have Hxx := Lib.hid (And.intro hxk hxp)
              clear hb2 hb3 hxk hxp
              go_wp2_with fail
              have hj5 : IntKind.i64.wrap ((k : Int) + 1 - 1) = (k : Int) := by rw [Int.add_sub_cancel]; exact IntWalk.i64_in _ (by omega)
              have hj6 : ((k : Int) + 1).toNat = k + 1 := by omega
              have hj7 : IntKind.i64.wrap (k : Int) = (k : Int) := IntWalk.i64_in _ (by omega)
              have hj8 : (0 : Int) < (k : Int) + 1 := by omega
              go_quiet (fail)
              clear hj5 hj6 hj7 hj8
              go_wp2
              exact ⟨⟨k + 1 + 1, by omega, by go_num, HE.out, below_drewN hb4 _⟩, by simp [intOf]; omega⟩
            · have hbd := bad_eq hA hE
              by_cases hF : x.fm ≤ y.fm
              · skip
                have HE := Lib.hid (show checkE l = 9 by rw [Hst.out, if_neg (not_not_intro hz0), hbd]; simp [hF])
                clear hz0 hbd
                go_wp2_with fail
                refine Hc.out.mono ?_
                rintro e w2 ⟨rfl, hb2⟩
                rw [HZ.out]
                have hb3 := hbX.trans (hb2.mono hbX.size)
                have hb4 := hb.trans (hb3.mono hb.size)
                obtain ⟨⟨d0, -⟩, d1, -⟩ := PdR.stays _ _ _ _ _ hb3 hB hxk
                obtain ⟨⟨q0, -⟩, q1, -⟩ := PdR.stays _ _ _ _ _ hb3 hB hxp
                have Hxx := Lib.hid (And.intro hxk hxp)
                clear hb2 hb3 hxk hxp
                go_wp2_with fail
                have hj5 : IntKind.i64.wrap ((k : Int) + 1 - 1) = (k : Int) := by rw [Int.add_sub_cancel]; exact IntWalk.i64_in _ (by omega)
                have hj6 : ((k : Int) + 1).toNat = k + 1 := by omega
                have hj7 : IntKind.i64.wrap (k : Int) = (k : Int) := IntWalk.i64_in _ (by omega)
                have hj8 : (0 : Int) < (k : Int) + 1 := by omega
                go_quiet (fail)
                clear hj5 hj6 hj7 hj8
                go_wp2
                go_ret
                exact ⟨ret_int HE.out.symm, below_drewN hb4 _⟩
              · skip
                have HE := Lib.hid (show checkE l = prodsE (prevP l (k + 1 + 1)) (l.drop (k + 1 + 1)) by rw [Hst.out, if_neg (not_not_intro hz0), hbd]; simp [hF])
                clear hz0 hbd
                go_wp2_with fail
                refine Hc.out.mono ?_
                rintro e w2 ⟨rfl, hb2⟩
                rw [HZ.out]
                have hb3 := hbX.trans (hb2.mono hbX.size)
                have hb4 := hb.trans (hb3.mono hb.size)
                obtain ⟨⟨d0, -⟩, d1, -⟩ := PdR.stays _ _ _ _ _ hb3 hB hxk
                obtain ⟨⟨q0, -⟩, q1, -⟩ := PdR.stays _ _ _ _ _ hb3 hB hxp
                have Hxx := Lib.hid (And.intro hxk hxp)
                clear hb2 hb3 hxk hxp
                go_wp2_with fail
                have hj5 : IntKind.i64.wrap ((k : Int) + 1 - 1) = (k : Int) := by rw [Int.add_sub_cancel]; exact IntWalk.i64_in _ (by omega)
                have hj6 : ((k : Int) + 1).toNat = k + 1 := by omega
                have hj7 : IntKind.i64.wrap (k : Int) = (k : Int) := IntWalk.i64_in _ (by omega)
                have hj8 : (0 : Int) < (k : Int) + 1 := by omega
                go_quiet (fail)
                clear hj5 hj6 hj7 hj8
                go_wp2
                exact ⟨⟨k + 1 + 1, by omega, by go_num, HE.out, below_drewN hb4 _⟩, by simp [intOf]; omega⟩
          · have HE := Lib.hid (show checkE l = prodE x by rw [Hst.out, if_pos hz0])
            have hz2 : (prodE x != 0) = true := by rw [bne_iff_ne]; exact hz0
            clear hz0
            go_wp2_with fail
            refine Hc.out.mono ?_
            rintro e w2 ⟨rfl, hb2⟩
            have hb3 := hbX.trans (hb2.mono hbX.size)
            have hb4 := hb.trans (hb3.mono hb.size)
            clear hb2 hb3
            go_wp2
            go_ret
            exact ⟨ret_int HE.out.symm, hb4⟩
      · have H := Lib.hid (show checkE l = 0 by rw [he, prodsE_end l k (by omega)])
        clear he
        go_wp2
        go_ret
        exact ⟨ret_int H.out.symm, hb⟩
end Go.Proofs.Ytmijdmchhlcblaa
