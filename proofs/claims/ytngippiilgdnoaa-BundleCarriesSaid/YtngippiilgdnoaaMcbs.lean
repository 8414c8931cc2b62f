/-
  The example of chapter 35, plainly: what is granted, and the buckets.
-/
import Derived.Test.YtngippiilgdnoaaMcbr
import Derived.Test.YtngippiilgdnoaaMcbo
import Derived.Test.YtngippiilgdnoaaMcbj
set_option maxRecDepth 100000
set_option maxHeartbeats 25600000
namespace Go.Proofs.Ytngippiilgdnoaa
open Go.RowKit Go.Maps
theorem sliceAt_two {α : Type} {sz : Nat} {R : World → Nat → Nat → α → Prop} {p : Value → Prop} (hR : ∀ (w w' : World) b o x, (∀ j, w'.cell? ⟨b, j, none⟩ = w.cell? ⟨b, j, none⟩) → R w b o x → R w' b o x) (hp : ∀ (w : World) b o x, R w b o x → ∃ j u, w.cell? ⟨b, j, none⟩ = some u ∧ p u)
 {w w' : World} {v : Value} {L : List α} {S M : Nat} (h : SliceAt sz R w v L) (hS : Blank w S p) (hM : Blank w M p) (hk : Keep2 S M w w') : SliceAt sz R w' v L := by
 obtain ⟨av, cap, rfl, h1, h2, h3⟩ := h
 refine ⟨av, cap, rfl, h1, h2, fun hne => ?_⟩
 obtain ⟨b, o, rfl, hB, hx⟩ := h3 hne
 have hpos : 0 < L.length := List.length_pos_iff.2 hne
 obtain ⟨j, u, hu, hpu⟩ := hp _ _ _ _ (hx 0 hpos)
 have hbS : b ≠ S := by rintro rfl; exact hS j u hu hpu
 have hbM : b ≠ M := by rintro rfl; exact hM j u hu hpu
 exact ⟨b, o, rfl, Nat.lt_of_lt_of_le hB hk.size, fun i hi => hR w w' b _ _ (fun j => cell_same (hk.block b hB hbS hbM)) (hx i hi)⟩
structure NoCells (S M : Nat) (w : World) : Prop where
 si : Blank w S isInt
 mi : Blank w M isInt
 ss : Blank w S isStr
 ms : Blank w M isStr
theorem StBox.noCells {S M base : Nat} {L : List Bu} {w : World} (h : StBox S M base L w) : NoCells S M w := by
 obtain ⟨la, lc, X, h1, -⟩ := h.row
 obtain ⟨Kl, k1, -⟩ := h.has
 obtain ⟨es, c, hm⟩ := k1.map
 have hI : ∀ u ∈ #[Value.slice la X.length lc, Value.map (some M)], ¬ isInt u := fun u hu => by
  rintro ⟨q, n, rfl⟩
  simp at hu
 have hS : ∀ u ∈ #[Value.slice la X.length lc, Value.map (some M)], ¬ isStr u := fun u hu => by
  rintro ⟨s, rfl⟩
  simp at hu
 exact ⟨blank_row h1 hI, blank_map hm _, blank_row h1 hS, blank_map hm _⟩
theorem persAt_two {S M : Nat} {w w' : World} {v : Value} {L : List (Int × Int)} (h : PersAt w v L) (hn : NoCells S M w) (hk : Keep2 S M w w') : PersAt w' v L :=
 sliceAt_two (R := PerR) (p := isInt) (fun _ _ _ _ _ hj h => ⟨(hj _).trans h.1, (hj _).trans h.2⟩) (fun _ _ _ _ h => ⟨_, _, h.1, _, _, rfl⟩) h hn.si hn.mi hk
theorem recAt_two {α : Type} {c : α → List Value} {sz : Nat} (hsz : 0 < sz) (hc : ∀ x, ∃ u, (c x)[0]? = some u ∧ isInt u) {S M : Nat} {w w' : World} {v : Value} {L : List α} (h : RecAt c sz w v L) (hn : NoCells S M w) (hk : Keep2 S M w w') : RecAt c sz w' v L :=
 sliceAt_two (R := RecR c sz) (p := isInt) (fun _ _ _ _ _ hj h j hjs => (hj _).trans (h j hjs)) (fun _ _ _ x h => by
  obtain ⟨u, hu, hpu⟩ := hc x
  exact ⟨_, u, (h 0 hsz).trans hu, hpu⟩) h hn.si hn.mi hk
theorem hoRd_two {l : List Ev} {S M : Nat} {w w' : World} {x : HoX} (h : HoRd l w x) (hn : NoCells S M w) (hk : Keep2 S M w w') : HoRd l w' x := ⟨persAt_two h.1 hn hk, h.2⟩
theorem strsAt_two {S M : Nat} {w w' : World} {v : Value} {L : List ByteArray} (h : StrsAt w v L) (hn : NoCells S M w) (hk : Keep2 S M w w') : StrsAt w' v L :=
 sliceAt_two (R := StrR) (p := isStr) (fun _ _ _ _ _ hj h => ⟨(hj _).trans h.1, h.2⟩) (fun _ _ _ _ h => ⟨_, _, h.1, _, rfl⟩) h hn.ss hn.ms hk
theorem buRd_two {S M : Nat} {w w' : World} {x : BuX} (h : BuRd w x) (hn : NoCells S M w) (hk : Keep2 S M w w') : BuRd w' x := ⟨strsAt_two h.z hn hk, h.p, h.len⟩
theorem own_two {S M base b : Nat} {L : List Bu} {e : TypeId} {sz n : Nat} {v : Value} {xs : List Value} {w w' : World} (h : w.ownsRow b e sz v n xs) (hs : StBox S M base L w) (he : e ≠ 53) (hk : Keep2 S M w w') : w'.ownsRow b e sz v n xs := by
 obtain ⟨la, lc, X, h1, -⟩ := hs.row
 obtain ⟨Kl, k1, -⟩ := hs.has
 obtain ⟨es, c, hm⟩ := k1.map
 obtain ⟨g1, g2⟩ := h
 refine ⟨g1, ?_⟩
 rcases g2 with g2 | ⟨g, cap, cur, hv, hg, hh, r⟩
 · exact Or.inl g2
 refine Or.inr ⟨g, cap, cur, hv, hg, ?_, r⟩
 rw [hk.block g (ltB9 hh) ?_ ?_]
 · exact hh
 · rintro rfl
   rw [hh] at h1
   cases h1
   exact he rfl
 rintro rfl
 rw [hh] at hm
 cases hm
structure I5 where
 a : Int
 b : Int
 c : Int
 d : Int
 e : Int
def i5Cells (x : I5) : List Value := [.int .i64 x.a, .int .i64 x.b, .int .i64 x.c, .int .i64 x.d, .int .i64 x.e]
theorem i5_one (x : I5) : ∀ u ∈ i5Cells x, u.oneCell' = true := by
 intro u hu
 unfold i5Cells at hu
 simp only [List.mem_cons, List.not_mem_nil, or_false] at hu
 rcases hu with h | h | h | h | h <;> (subst h; rfl)
theorem plB_take (X : List BuX) (k : Nat) (h : k < X.length) : plB (X.take (k + 1)) = plB (X.take k) ++ [(X[k]).b] := by
 unfold plB
 rw [List.take_succ_eq_append_getElem h, List.map_append]
 rfl
theorem plB_append (X Y : List BuX) : plB (X ++ Y) = plB X ++ plB Y := List.map_append ..
theorem existsB_append (L : List Bu) (c b : Bu) : existsB (L ++ [c]) b = (existsB L b || sameId c b) := by
 unfold existsB
 rw [List.any_append]
 simp
noncomputable def grantsAt (l : List Ev) (P : List Pd) (ac t : Int) (H : List Had) (c : Int × Int) : List (Bu × Int) := H.flatMap fun h => (grantB P ac h (actL h.1 h.2 l) c).filter fun g => decide (g.1.f ≤ t)
noncomputable def grantsB (l : List Ev) (P : List Pd) (ac t : Int) (H : List Had) (O : List (Int × Int)) : List (Bu × Int) := O.flatMap (grantsAt l P ac t H)
structure AdFr (S M base B b0 : Nat) (l : List Ev) (ac : Int) (cv hv : Value) (O : List (Int × Int)) (H : List HoX) (row : Array Value) (wa ca : Option Addr) (wc cc : Nat) (WL CL : List I5) (L : List Bu) (w0 w : World) : Prop where
 st : StBox S M base L w
 cyc : PersAt w cv O
 hos : RecAt (hoCells ac) 4 w hv H
 hrd : ∀ x ∈ H, HoRd l w x
 box : w.heap[B]? = some (Obj.cells row 37)
 bS : B ≠ S
 bM : B ≠ M
 wal : w.ownsRow base 165 5 (.slice wa WL.length wc) WL.length (WL.flatMap i5Cells)
 cnt : w.ownsRow base 167 5 (.slice ca CL.length cc) CL.length (CL.flatMap i5Cells)
 bel : Below b0 w0 w
 sz : b0 ≤ w0.heap.size
 s0 : b0 ≤ S
 m0 : b0 ≤ M
section
variable {S M base B b0 : Nat} {l : List Ev} {ac : Int} {cv hv : Value} {O : List (Int × Int)} {H : List HoX} {row : Array Value} {wa ca : Option Addr} {wc cc : Nat} {WL CL : List I5} {L : List Bu} {w0 w w' : World}
theorem AdFr.go (h : AdFr S M base B b0 l ac cv hv O H row wa ca wc cc WL CL L w0 w) (hb : Below w.heap.size w w') : AdFr S M base B b0 l ac cv hv O H row wa ca wc cc WL CL L w0 w' :=
 ⟨h.st.keep hb, h.cyc.below hb, h.hos.below hb, fun x hx => ⟨(h.hrd x hx).1.below hb, (h.hrd x hx).2⟩, (hb.block _ (ltB9 h.box)).trans h.box, h.bS, h.bM, ownsRow_below h.wal hb, ownsRow_below h.cnt hb, h.bel.trans (hb.mono (Nat.le_trans h.sz h.bel.size)), h.sz, h.s0, h.m0⟩
theorem AdFr.two {L' : List Bu} (h : AdFr S M base B b0 l ac cv hv O H row wa ca wc cc WL CL L w0 w) (hs : StBox S M base L' w') (hk : Keep2 S M w w') : AdFr S M base B b0 l ac cv hv O H row wa ca wc cc WL CL L' w0 w' :=
 have hn := h.st.noCells
 ⟨hs, persAt_two h.cyc hn hk, recAt_two (by decide) (fun x => ⟨_, rfl, _, _, rfl⟩) h.hos hn hk, fun x hx => hoRd_two (h.hrd x hx) hn hk, (hk.block _ (ltB9 h.box) h.bS h.bM).trans h.box, h.bS, h.bM, own_two h.wal h.st (by decide) hk, own_two h.cnt h.st (by decide) hk, h.bel.trans (hk.below (Nat.le_trans h.sz h.bel.size) h.s0 h.m0), h.sz, h.s0, h.m0⟩
end
end Go.Proofs.Ytngippiilgdnoaa
namespace Go.Proofs.Ytngippiilgdnoaa
open Go.RowKit
theorem sameOne_calls (x y : BuX) (w : World) (hx : BuRd w x) (hy : BuRd w y) (he : y.b = x.b) : Calls Try.prog 5 #[buVal x, buVal y] w fun e w' => e = .returned (.bool true) ∧ Below w.heap.size w w' := by
 obtain ⟨b0, xa, xn, xv⟩ := x
 obtain ⟨b, ya, yn, yv⟩ := y
 obtain rfl : b = b0 := he
 obtain ⟨a1, c1, e1, hl1, hm1, -⟩ := hx.z
 dsimp only at e1 hl1
 injection e1 with q1 q2 q3
 subst q1; subst q2; subst q3
 obtain ⟨a2, c2, e2, hl2, hm2, -⟩ := hy.z
 dsimp only at e2 hl2
 injection e2 with q1 q2 q3
 subst q1; subst q2; subst q3
 obtain ⟨W, hW, r0, r1, hw0, hz⟩ := two_rows2 w (Obj.cells #[.int .i64 b.ac, .int .i64 b.sb, .string b.pr, .int .i64 b.ix, .int .i64 b.kd, .slice xa b.zs.length xv, .int .i64 b.f, .int .i64 b.t, .int .i64 b.un, .int .i64 b.lf, .int .i64 b.pt, .bool b.sh] 26) (Obj.cells #[.int .i64 b.ac, .int .i64 b.sb, .string b.pr, .int .i64 b.ix, .int .i64 b.kd, .slice ya b.zs.length yv, .int .i64 b.f, .int .i64 b.t, .int .i64 b.un, .int .i64 b.lf, .int .i64 b.pt, .bool b.sh] 26)
 have HW := hZ9 hW
 have R0 := hZ9 r0
 have R1 := hZ9 r1
 have Hb := hZ9 hw0
 have HX := hZ9 (hx.z.below hw0)
 have HY := hZ9 (hy.z.below hw0)
 have Hz := hZ9 hz
 have hm1 := hm1.1
 have hm2 := hm2.1
 unfold maxLen at hm1 hm2
 unfold buVal
 clear hW r0 r1 hw0 hx hy hz
 have HAw := hZ9 (show ∀ Z, Below W.heap.size W Z → (Z.cell? ⟨w.heap.size, 0, none⟩ = some (.int .i64 b.ac) ∧ Z.cell? ⟨w.heap.size, 1, none⟩ = some (.int .i64 b.sb) ∧ Z.cell? ⟨w.heap.size, 2, none⟩ = some (.string b.pr) ∧ Z.cell? ⟨w.heap.size, 3, none⟩ = some (.int .i64 b.ix) ∧ Z.cell? ⟨w.heap.size, 4, none⟩ = some (.int .i64 b.kd) ∧ Z.cell? ⟨w.heap.size, 5, none⟩ = some (.slice xa b.zs.length xv) ∧ Z.cell? ⟨w.heap.size, 6, none⟩ = some (.int .i64 b.f) ∧ Z.cell? ⟨w.heap.size, 7, none⟩ = some (.int .i64 b.t) ∧ Z.cell? ⟨w.heap.size, 8, none⟩ = some (.int .i64 b.un) ∧ Z.cell? ⟨w.heap.size, 9, none⟩ = some (.int .i64 b.lf) ∧ Z.cell? ⟨w.heap.size, 10, none⟩ = some (.int .i64 b.pt) ∧ Z.cell? ⟨w.heap.size, 11, none⟩ = some (.bool b.sh)) ∧ (Z.cell? ⟨w.heap.size + 1, 0, none⟩ = some (.int .i64 b.ac) ∧ Z.cell? ⟨w.heap.size + 1, 1, none⟩ = some (.int .i64 b.sb) ∧ Z.cell? ⟨w.heap.size + 1, 2, none⟩ = some (.string b.pr) ∧ Z.cell? ⟨w.heap.size + 1, 3, none⟩ = some (.int .i64 b.ix) ∧ Z.cell? ⟨w.heap.size + 1, 4, none⟩ = some (.int .i64 b.kd) ∧ Z.cell? ⟨w.heap.size + 1, 5, none⟩ = some (.slice ya b.zs.length yv) ∧ Z.cell? ⟨w.heap.size + 1, 6, none⟩ = some (.int .i64 b.f) ∧ Z.cell? ⟨w.heap.size + 1, 7, none⟩ = some (.int .i64 b.t) ∧ Z.cell? ⟨w.heap.size + 1, 8, none⟩ = some (.int .i64 b.un) ∧ Z.cell? ⟨w.heap.size + 1, 9, none⟩ = some (.int .i64 b.lf) ∧ Z.cell? ⟨w.heap.size + 1, 10, none⟩ = some (.int .i64 b.pt) ∧ Z.cell? ⟨w.heap.size + 1, 11, none⟩ = some (.bool b.sh)) from fun Z hZ => by
  have q0 := (hZ.block _ (by have := Hz.out; omega)).trans R0.out
  have q1 := (hZ.block _ Hz.out).trans R1.out
  exact ⟨⟨cell_of_row Z _ 0 _ _ _ q0, cell_of_row Z _ 1 _ _ _ q0, cell_of_row Z _ 2 _ _ _ q0, cell_of_row Z _ 3 _ _ _ q0, cell_of_row Z _ 4 _ _ _ q0, cell_of_row Z _ 5 _ _ _ q0, cell_of_row Z _ 6 _ _ _ q0, cell_of_row Z _ 7 _ _ _ q0, cell_of_row Z _ 8 _ _ _ q0, cell_of_row Z _ 9 _ _ _ q0, cell_of_row Z _ 10 _ _ _ q0, cell_of_row Z _ 11 _ _ _ q0⟩, ⟨cell_of_row Z _ 0 _ _ _ q1, cell_of_row Z _ 1 _ _ _ q1, cell_of_row Z _ 2 _ _ _ q1, cell_of_row Z _ 3 _ _ _ q1, cell_of_row Z _ 4 _ _ _ q1, cell_of_row Z _ 5 _ _ _ q1, cell_of_row Z _ 6 _ _ _ q1, cell_of_row Z _ 7 _ _ _ q1, cell_of_row Z _ 8 _ _ _ q1, cell_of_row Z _ 9 _ _ _ q1, cell_of_row Z _ 10 _ _ _ q1, cell_of_row Z _ 11 _ _ _ q1⟩⟩)
 obtain ⟨⟨x0, x1, x2, x3, x4, x5, x6, x7, x8, x9, x10, x11⟩, ⟨y0, y1, y2, y3, y4, y5, y6, y7, y8, y9, y10, y11⟩⟩ := HAw.out W (Below.refl _ _)
 go_enter Try.func5, Try.ntmps5
 go_upto_region 1 with (fail)
 rw [← HW.out]
 go_wp2_with fail
 go_loopw [5] (fun i wr => ∃ k : Nat, k ≤ b.zs.length ∧ i = .int .i64 k ∧ Below W.heap.size W wr) (fun i _ => b.zs.length - (intOf i).toNat)
 case atStart => exact ⟨0, Nat.zero_le _, rfl, Below.refl _ _⟩
 case round =>
  obtain ⟨k, hk, rfl, hb⟩ := hrel
  have hk0 : (0 : Int) ≤ (k : Int) := Int.natCast_nonneg _
  clear x0 x1 x2 x3 x4 x5 x6 x7 x8 x9 x10 x11 y0 y1 y2 y3 y4 y5 y6 y7 y8 y9 y10 y11
  by_cases hlt : k < b.zs.length
  · have hk1 : (k : Int) < (b.zs.length : Int) := by omega
    obtain ⟨av2, cap2, ee, -, -, hxx⟩ := HX.out.below hb
    cases ee
    obtain ⟨b1, o1, rfl, hB1, hxx⟩ := hxx (fun h => by rw [h] at hlt; cases hlt)
    obtain ⟨u0, -⟩ := hxx k hlt
    obtain ⟨av3, cap3, ee, -, -, hyy⟩ := HY.out.below hb
    cases ee
    obtain ⟨b2, o2, rfl, hB2, hyy⟩ := hyy (fun h => by rw [h] at hlt; cases hlt)
    obtain ⟨v0, -⟩ := hyy k hlt
    rw [Nat.mul_one] at u0 v0
    obtain ⟨⟨-, -, -, -, -, s5, -⟩, ⟨-, -, -, -, -, t5, -⟩⟩ := HAw.out wr hb
    have Hb2 := hZ9 hb
    have hn0 : w.heap.size < wr.heap.size := by have := hb.size; have := Hz.out; omega
    have hn1 : w.heap.size + 1 < wr.heap.size := by have := hb.size; have := Hz.out; omega
    have f0 := fun p : BelowOf wr => BelowOf.cell (a := ⟨w.heap.size, 5, none⟩) hn0 s5 p
    have f1 := fun p : BelowOf wr => BelowOf.cell (a := ⟨w.heap.size + 1, 5, none⟩) hn1 t5 p
    have f2 := fun p : BelowOf wr => BelowOf.cell (a := ⟨b1, o1 + k, none⟩) hB1 u0 p
    have f3 := fun p : BelowOf wr => BelowOf.cell (a := ⟨b2, o2 + k, none⟩) hB2 v0 p
    clear hxx hyy hb
    generalize b.zs[k] = q at *
    go_upto_region 6 with (fail)
    refine wp_region_quiet_below (Below.refl wr.heap.size wr) (by kernel_rfl) (by kernel_rfl) ?_
    repeat (go_big_quiet_step (fail))
    refine wpQuiet_nil ?_
    intro wz hw'
    have hYa : Below wr.heap.size wr wz := by obtain ⟨pq, rfl⟩ := hw'; exact pq.h
    have Hbz := hZ9 (Hb2.out.trans (hYa.mono Hb2.out.size))
    clear hw' hYa f0 f1 f2 f3 hn0 hn1 hB1 hB2
    obtain ⟨⟨-, -, -, -, -, s5, -⟩, ⟨-, -, -, -, -, t5, -⟩⟩ := HAw.out wz Hbz.out
    go_wp2
    exact ⟨⟨k + 1, hlt, by go_num, Hbz.out⟩, by simp [intOf]; omega⟩
  obtain ⟨⟨s0, s1, s2, s3, s4, s5, s6, s7, s8, s9, s10, s11⟩, ⟨t0, t1, t2, t3, t4, t5, t6, t7, t8, t9, t10, t11⟩⟩ := HAw.out wr hb
  have Hb2 := hZ9 (Hb.out.trans (hb.mono (show w.heap.size ≤ W.heap.size by have := Hz.out; omega)))
  clear hb
  go_wp2
  go_ret
  exact ⟨rfl, Hb2.out⟩
end Go.Proofs.Ytngippiilgdnoaa
namespace Go.Proofs.Ytngippiilgdnoaa
open Go.RowKit Go.Maps
theorem wp_append_bu1 {w : World} {o : Oper} {a : Act} {K : Act → World → Prop} {Q : Exit → Act → World → Prop} (s x : Operand)
 (ho : o.op = .call { callee := .builtin .append, args := #[s, x], argTypes := #[33, 33] })
 (base : Nat) (hbase : base ≤ w.heap.size) (v : Value) (L : List BuX) (hs : a.eval s = v) (hown : w.ownsRow base 26 12 v L.length (L.flatMap buCells)) (z : BuX) (g : Nat) (hx : a.eval x = .slice (some ⟨g, 0, none⟩) 1 1) (hz : w.heap[g]? = some (Obj.cells #[.int .i64 z.b.ac, .int .i64 z.b.sb, .string z.b.pr, .int .i64 z.b.ix, .int .i64 z.b.kd, .slice z.za z.zn z.zc, .int .i64 z.b.f, .int .i64 z.b.t, .int .i64 z.b.un, .int .i64 z.b.lf, .int .i64 z.b.pt, .bool z.b.sh] 26)) (hlen : L.length ≤ 900000)
 (h : ∀ v' w', w'.ownsRow base 26 12 v' (L ++ [z]).length ((L ++ [z]).flatMap buCells) → w.grownBy w' v.ownBlock → K (a.put o.dst v') w') : o.wp Try.prog a w K Q := by
 obtain ⟨i0, hi, hz0, hz1, hz2⟩ := info_parts Try.buInfo
 obtain ⟨a2, c2, e, -, -, hx2⟩ := bu_block hz z rfl
 cases e
 refine wp_append_own w s x _ ho base 26 i0 _ 12 120 Try.underlying33 hi hz0 hz1 hz2 rfl (by decide) v L.length _ hs hown ⟨g, 0, none⟩ 1 1 (buCells z) hx rfl ?_ (bu_one z) (by unfold maxLen; omega) (by omega) hbase ?_
 · intro j u hj
   have hjl : j < 12 := (List.getElem?_eq_some_iff.1 hj).1
   obtain ⟨b, o, e, -, hx3⟩ := hx2 (by simp)
   cases e
   have q := hx3 0 (by simp) j hjl
   rw [show (⟨g, 0, none⟩ : Addr).add j = ⟨g, 0 + 0 * 12 + j, none⟩ by unfold Addr.add; split <;> simp_all]
   exact q.trans hj
 intro v' w' h1 h2 _
 refine h v' w' ?_ h2
 rw [List.length_append, List.flatMap_append, List.flatMap_singleton]
 exact h1
def avPhi (S base n : Nat) (vr : Value) (x : BuX) (R : List BuX) : Nat → Value → World → Prop
 | 0, v, _ => v = .pointer (some ⟨S, 0, none⟩)
 | 1, v, _ => v = .pointer (some ⟨S, 0, none⟩)
 | 2, v, _ => v = .pointer (some ⟨S, 0, none⟩)
 | 3, v, _ => v = .pointer (some ⟨S, 0, none⟩)
 | 4, v, _ => v = vr
 | 5, v, _ => v = buVal x
 | 6, v, w => ∃ z, v = buVal z ∧ z.b = x.b ∧ BuO base w z
 | 7, v, w => ∃ z g, v = .slice (some ⟨g, 0, none⟩) 1 1 ∧ z.b = x.b ∧ BuO base w z ∧ n ≤ g ∧ w.heap[g]? = some (Obj.cells #[.int .i64 z.b.ac, .int .i64 z.b.sb, .string z.b.pr, .int .i64 z.b.ix, .int .i64 z.b.kd, .slice z.za z.zn z.zc, .int .i64 z.b.f, .int .i64 z.b.t, .int .i64 z.b.un, .int .i64 z.b.lf, .int .i64 z.b.pt, .bool z.b.sh] 26)
 | 8, v, w => ∃ z a c, v = .slice a (R ++ [z]).length c ∧ z.b = x.b ∧ BuO base w z ∧ w.ownsRow base 26 12 (.slice a (R ++ [z]).length c) (R ++ [z]).length ((R ++ [z]).flatMap buCells)
 | _, _, _ => True
theorem avPhi_stays {S base n : Nat} {vr : Value} {x : BuX} {R : List BuX} {w1 w2 : World} (hb : Below w1.heap.size w1 w2) : ∀ kQ yQ, avPhi S base n vr x R kQ yQ w1 → avPhi S base n vr x R kQ yQ w2
 | 0, _, h => h
 | 1, _, h => h
 | 2, _, h => h
 | 3, _, h => h
 | 4, _, h => h
 | 5, _, h => h
 | 6, _, h => (by obtain ⟨z, h1, h2, h3⟩ := h; exact ⟨z, h1, h2, h3.below hb⟩)
 | 7, _, h => (by obtain ⟨z, g, h1, h2, h3, h4, h5⟩ := h; exact ⟨z, g, h1, h2, h3.below hb, h4, (hb.block _ (ltB9 h5)).trans h5⟩)
 | 8, _, h => (by obtain ⟨z, a, c, h1, h2, h3, h4⟩ := h; exact ⟨z, a, c, h1, h2, h3.below hb, ownsRow_below h4 hb⟩)
 | _ + 9, _, _ => trivial
theorem avPhi_grown {S base n : Nat} {vr : Value} {x : BuX} {R : List BuX} {w1 w2 : World} (ho : w1.ownsRow base 26 12 vr R.length (R.flatMap buCells)) (hg : w1.grownBy w2 vr.ownBlock) (hn : ∀ g, vr.ownBlock = some g → g < n) : ∀ k y, k ≠ 8 → avPhi S base n vr x R k y w1 → avPhi S base n vr x R k y w2
 | 0, _, _, h => h
 | 1, _, _, h => h
 | 2, _, _, h => h
 | 3, _, _, h => h
 | 4, _, _, h => h
 | 5, _, _, h => h
 | 6, _, _, ⟨z, h1, h2, h3⟩ => ⟨z, h1, h2, h3.growT ho (by decide) hg⟩
 | 7, _, _, ⟨z, g, h1, h2, h3, h4, h5⟩ => ⟨z, g, h1, h2, h3.growT ho (by decide) hg, h4, (hg.block _ (ltB9 h5) (fun e => absurd (hn g e.symm) (by omega))).trans h5⟩
 | 8, _, hk, _ => absurd rfl hk
 | _ + 9, _, _, _ => trivial
def avC (Y : World) (rb : Option Nat) : Bool → World → Prop
 | false, w => Below Y.heap.size Y w
 | true, w => Y.grownBy w rb
theorem avC.grown {Y w : World} {rb : Option Nat} {b : Bool} (h : avC Y rb b w) : Y.grownBy w rb := by
 cases b with
 | true => exact h
 | false =>
  have h : Below Y.heap.size Y w := h
  exact ⟨h.os, h.tape, h.output, h.size, fun k hk _ => h.block k hk⟩
theorem avC.below {Y w w' : World} {rb : Option Nat} {b : Bool} (h : avC Y rb b w) (hb : Below w.heap.size w w') : avC Y rb b w' := by
 cases b with
 | true =>
  have h : Y.grownBy w rb := h
  exact ⟨hb.os.trans h.os, hb.tape.trans h.tape, hb.output.trans h.output, Nat.le_trans h.size hb.size, fun k hk hn => (hb.block k (Nat.lt_of_lt_of_le hk h.size)).trans (h.block k hk hn)⟩
 | false => exact Below.trans (show Below Y.heap.size Y w from h) (hb.mono (show Below Y.heap.size Y w from h).size)
theorem avC.app {Y w w' : World} {rb : Option Nat} (h : avC Y rb false w) (hg : w.grownBy w' rb) : avC Y rb true w' := by
 have h : Below Y.heap.size Y w := h
 exact ⟨hg.os.trans h.os, hg.tape.trans h.tape, hg.output.trans h.output, Nat.le_trans h.size hg.size, fun k hk hn => (hg.block k (Nat.lt_of_lt_of_le hk h.size) hn).trans (h.block k hk)⟩
def acPhi (b7 base n : Nat) (wa ca : Option Addr) (wc cc : Nat) (WL CL : List I5) : Nat → Value → World → Prop
 | 0, v, _ => v = .pointer (some ⟨b7, 1, none⟩)
 | 1, v, _ => v = .slice wa WL.length wc
 | 2, v, w => ∃ a c, v = .slice a WL.length c ∧ w.ownsRow base 165 5 (.slice a WL.length c) WL.length (WL.flatMap i5Cells)
 | 3, v, _ => v = .pointer (some ⟨b7, 2, none⟩)
 | 4, v, _ => v = .slice ca CL.length cc
 | 5, v, w => ∃ a c, v = .slice a CL.length c ∧ w.ownsRow base 167 5 (.slice a CL.length c) CL.length (CL.flatMap i5Cells)
 | 6, v, w => ∃ a c a2 c2, v = .agg #[.slice none 0 0, .slice a WL.length c, .slice a2 CL.length c2] ∧ w.ownsRow base 165 5 (.slice a WL.length c) WL.length (WL.flatMap i5Cells) ∧ w.ownsRow base 167 5 (.slice a2 CL.length c2) CL.length (CL.flatMap i5Cells)
 | 7, v, w => ∃ g cs, v = .pointer (some ⟨g, 0, none⟩) ∧ n ≤ g ∧ w.heap[g]? = some (Obj.cells cs 37) ∧ cs.size = 3
 | _, _, _ => True
theorem acPhi_stays {b7 base n : Nat} {wa ca : Option Addr} {wc cc : Nat} {WL CL : List I5} {w1 w2 : World} (hb : Below w1.heap.size w1 w2) : ∀ kQ yQ, acPhi b7 base n wa ca wc cc WL CL kQ yQ w1 → acPhi b7 base n wa ca wc cc WL CL kQ yQ w2
 | 0, _, h => h
 | 1, _, h => h
 | 2, _, h => (by obtain ⟨a, c, h1, h2⟩ := h; exact ⟨a, c, h1, ownsRow_below h2 hb⟩)
 | 3, _, h => h
 | 4, _, h => h
 | 5, _, h => (by obtain ⟨a, c, h1, h2⟩ := h; exact ⟨a, c, h1, ownsRow_below h2 hb⟩)
 | 6, _, h => (by obtain ⟨a, c, a2, c2, h1, h2, h3⟩ := h; exact ⟨a, c, a2, c2, h1, ownsRow_below h2 hb, ownsRow_below h3 hb⟩)
 | 7, _, h => (by obtain ⟨g, cs, h1, h2, h3, h4⟩ := h; exact ⟨g, cs, h1, h2, (hb.block _ (ltB9 h3)).trans h3, h4⟩)
 | _ + 8, _, _ => trivial
theorem Try.walInfo : (Try.prog.info? 165).map (fun i => (i.zero, i.size, i.bytes)) = some (some (.agg #[.int .i64 0, .int .i64 0, .int .i64 0, .int .i64 0, .int .i64 0]), 5, 40) := by kernel_rfl
theorem Try.cntInfo : (Try.prog.info? 167).map (fun i => (i.zero, i.size, i.bytes)) = some (some (.agg #[.int .i64 0, .int .i64 0, .int .i64 0, .int .i64 0, .int .i64 0]), 5, 40) := by kernel_rfl
end Go.Proofs.Ytngippiilgdnoaa
namespace Go.Proofs.Ytngippiilgdnoaa
open Go.RowKit
noncomputable def grH (l : List Ev) (P : List Pd) (ac t : Int) (c : Int × Int) (h : Had) : List (Bu × Int) := (grantB P ac h (actL h.1 h.2 l) c).filter fun g => decide (g.1.f ≤ t)
noncomputable def preG (l : List Ev) (P : List Pd) (ac t : Int) (H : List Had) (O : List (Int × Int)) (kc : Nat) (c : Int × Int) (kh : Nat) (B : List (Bu × Int)) : List (Bu × Int) := grantsB l P ac t H (O.take kc) ++ (H.take kh).flatMap (grH l P ac t c) ++ B.filter fun g => decide (g.1.f ≤ t)
section
variable {l : List Ev} {P : List Pd} {ac t : Int} {H : List Had} {O : List (Int × Int)}
theorem preG_start (c : Int × Int) (kc : Nat) : preG l P ac t H O kc c 0 [] = grantsB l P ac t H (O.take kc) := by unfold preG; simp
theorem preG_hold {kc kh : Nat} {c : Int × Int} (h : kh < H.length) : preG l P ac t H O kc c kh (grantB P ac H[kh] (actL H[kh].1 H[kh].2 l) c) = preG l P ac t H O kc c (kh + 1) [] := by
 unfold preG
 rw [List.take_succ_eq_append_getElem h, List.flatMap_append, List.flatMap_singleton]
 show _ ++ _ ++ grH l P ac t c H[kh] = _ ++ (_ ++ grH l P ac t c H[kh]) ++ _
 simp [List.append_assoc]
theorem preG_cycle {kc : Nat} (h : kc < O.length) : preG l P ac t H O kc O[kc] H.length [] = grantsB l P ac t H (O.take (kc + 1)) := by
 unfold preG grantsB
 rw [List.take_succ_eq_append_getElem h, List.flatMap_append, List.flatMap_singleton, List.take_length]
 simp [grantsAt]
 rfl
theorem preG_in {kc kh : Nat} {c : Int × Int} {B : List (Bu × Int)} {g : Bu × Int} (h : decide (g.1.f ≤ t) = true) : preG l P ac t H O kc c kh (B ++ [g]) = preG l P ac t H O kc c kh B ++ [g] := by
 unfold preG
 rw [List.filter_append, List.filter_cons, if_pos h]
 simp [List.append_assoc]
theorem preG_out {kc kh : Nat} {c : Int × Int} {B : List (Bu × Int)} {g : Bu × Int} (h : decide (g.1.f ≤ t) = false) : preG l P ac t H O kc c kh (B ++ [g]) = preG l P ac t H O kc c kh B := by
 unfold preG
 rw [List.filter_append, List.filter_cons, if_neg (by rw [h]; decide)]
 simp
theorem preG_cut {kc kh : Nat} (hc : kc < O.length) (hh : kh < H.length) {B R : List (Bu × Int)} (hB : grantB P ac H[kh] (actL H[kh].1 H[kh].2 l) O[kc] = B ++ R) : ∃ T, grantsB l P ac t H O = preG l P ac t H O kc O[kc] kh B ++ T := by
 refine ⟨R.filter (fun g => decide (g.1.f ≤ t)) ++ (H.drop (kh + 1)).flatMap (grH l P ac t O[kc]) ++ grantsB l P ac t H (O.drop (kc + 1)), ?_⟩
 have e1 : O = O.take kc ++ O[kc] :: O.drop (kc + 1) := by rw [List.getElem_cons_drop, List.take_append_drop]
 have e2 : H = H.take kh ++ H[kh] :: H.drop (kh + 1) := by rw [List.getElem_cons_drop, List.take_append_drop]
 have e3 : grantsAt l P ac t H O[kc] = (H.take kh).flatMap (grH l P ac t O[kc]) ++ (grH l P ac t O[kc] H[kh] ++ (H.drop (kh + 1)).flatMap (grH l P ac t O[kc])) := by
  show H.flatMap (grH l P ac t O[kc]) = _
  conv => lhs; rw [e2]
  rw [List.flatMap_append, List.flatMap_cons]
 have e4 : grH l P ac t O[kc] H[kh] = B.filter (fun g => decide (g.1.f ≤ t)) ++ R.filter (fun g => decide (g.1.f ≤ t)) := by unfold grH; rw [hB, List.filter_append]
 unfold preG
 have e5 : grantsB l P ac t H O = grantsB l P ac t H (O.take kc) ++ (grantsAt l P ac t H O[kc] ++ grantsB l P ac t H (O.drop (kc + 1))) := by
  unfold grantsB
  conv => lhs; rw [e1]
  rw [List.flatMap_append, List.flatMap_cons]
 rw [e5, e3, e4]
 simp only [List.append_assoc]
end
theorem createB_le (L : List Bu) (g : Bu × Int) : (createB L g).length ≤ L.length + 1 := by
 unfold createB
 split
 · omega
 unfold insB; rw [insT_len]; omega
theorem foldG_le (G : List (Bu × Int)) : ∀ L : List Bu, (foldG G L).length ≤ L.length + G.length := by
 induction G with
 | nil => intro L; exact Nat.le_refl _
 | cons g G ih =>
  intro L
  have h1 := ih (createB L g)
  have h2 := createB_le L g
  show (foldG G (createB L g)).length ≤ _
  rw [List.length_cons]
  omega
theorem foldG_snoc (G : List (Bu × Int)) (g : Bu × Int) (L : List Bu) : foldG (G ++ [g]) L = createB (foldG G L) g := by rw [foldG_append]; rfl
theorem plG_take (X : List (BuX × Int)) (k : Nat) (h : k < X.length) : plG (X.take (k + 1)) = plG (X.take k) ++ [((X[k]).1.b, (X[k]).2)] := by
 unfold plG
 rw [List.take_succ_eq_append_getElem h, List.map_append]
 rfl
end Go.Proofs.Ytngippiilgdnoaa
namespace Go.Proofs.Ytngippiilgdnoaa
open Go.RowKit Go.Maps
def StTo (L : List Bu) (WL CL : List I5) (w : World) (e : Ending) (w' : World) : Prop := ∃ (a : Option Addr) (c : Nat) (X : List BuX) (wa : Option Addr) (wc : Nat) (ca : Option Addr) (cc : Nat), e = .returned (.agg #[.slice a X.length c, .slice wa WL.length wc, .slice ca CL.length cc]) ∧ w'.ownsRow w.heap.size 26 12 (.slice a X.length c) X.length (X.flatMap buCells) ∧ plB X = L ∧ (∀ x ∈ X, BuO w.heap.size w' x) ∧ w'.ownsRow w.heap.size 165 5 (.slice wa WL.length wc) WL.length (WL.flatMap i5Cells) ∧ w'.ownsRow w.heap.size 167 5 (.slice ca CL.length cc) CL.length (CL.flatMap i5Cells) ∧ Below w.heap.size w w'
def advOn (l : List Ev) (ac t : Int) : Prop := 0 ≤ t ∧ t < 12622780800 ∧ 0 < anchorL l ac
def AdvTo (l : List Ev) (P : List Pd) (ac t : Int) (L : List Bu) (WL CL : List I5) (w : World) (e : Ending) (w' : World) : Prop :=
 (¬ advOn l ac t ∧ StTo L WL CL w e w') ∨ (advOn l ac t ∧ ∃ H O, HadOk l ac H ∧ CycsOk (anchorL l ac) (heldA l H) t O ∧ StTo (foldG (grantsB l P ac t H O) L) WL CL w e w')
structure AdvH (l : List Ev) (P : List Pd) (ac t : Int) : Prop where
 a28 : anchorL l ac ≤ 28
 cin : ∀ H, HadOk l ac H → ∀ p ∈ heldA l H, 0 ≤ p.1 ∧ p.1 < p.2 ∧ p.2 ≤ 12622780800
 clen : ∀ H, HadOk l ac H → advOn l ac t → ((heldA l H).flatMap (walkC (anchorL l ac) t)).length ≤ 1600
 key : ∀ H O, HadOk l ac H → CycsOk (anchorL l ac) (heldA l H) t O → ∀ g ∈ grantsB l P ac t H O, KeyB g.1
 few : ∀ H O, HadOk l ac H → CycsOk (anchorL l ac) (heldA l H) t O → advOn l ac t → (grantsB l P ac t H O).length ≤ 300000
theorem padvance_calls (l : List Ev) (P : List Pd) (ac t : Int) (ve vp : Value) (X : List BuX) (WL CL : List I5) (sa wa ca : Option Addr) (sc wc cc : Nat) (w : World)
 (he : EvsAt w ve l) (hr : OkRun l) (hl : l.length ≤ 100) (hp : PdsAt w vp P) (hf : FewP P) (hX : RecAt buCells 12 w (.slice sa X.length sc) X) (hrd : ∀ x ∈ X, BuRd w x) (hky : ∀ x ∈ X, KeyB x.b) (hXl : X.length ≤ 400000)
 (hWL : RecAt i5Cells 5 w (.slice wa WL.length wc) WL) (hWn : WL.length ≤ 1000) (hCL : RecAt i5Cells 5 w (.slice ca CL.length cc) CL) (hCn : CL.length ≤ 1000) (hA : AdvH l P ac t) :
 Calls Try.prog 9 #[ve, vp, .agg #[.slice sa X.length sc, .slice wa WL.length wc, .slice ca CL.length cc], .int .i64 ac, .int .i64 t] w (AdvTo l P ac t (plB X) WL CL w) := by
 have hmm := @run_makeMap Try.prog
 obtain ⟨W1, hW1, r0, r1, hw0, hz⟩ := two_rows2 w (Obj.cells #[.slice sa X.length sc, .slice wa WL.length wc, .slice ca CL.length cc] 37) (Obj.cells #[.slice none 0 0, .slice none 0 0, .slice none 0 0] 37)
 have hs1 : W1.heap.size = w.heap.size + 2 := by rw [hW1]; simp
 obtain ⟨W2, hW2⟩ : ∃ W2, W2 = W1.alloc (.map #[] 0) := ⟨_, rfl⟩
 have hb2 : Below W1.heap.size W1 W2 := by rw [hW2]; exact (Below.refl _ _).alloc (Nat.le_refl _) _
 have hs2 : W2.heap.size = w.heap.size + 3 := by rw [hW2]; simp [hs1]
 obtain ⟨W, hW⟩ : ∃ W, W = W2.alloc (Obj.cells #[.slice none 0 0, .map (some (w.heap.size + 2))] 53) := ⟨_, rfl⟩
 have hb3 : Below W2.heap.size W2 W := by rw [hW]; exact (Below.refl _ _).alloc (Nat.le_refl _) _
 have hs3 : W.heap.size = w.heap.size + 4 := by rw [hW]; simp [hs2]
 have hbW1 : Below W1.heap.size W1 W := hb2.trans (hb3.mono (by omega))
 have R0 := hZ9 ((hbW1.block _ (by omega)).trans r0)
 have R1 := hZ9 ((hbW1.block _ (by omega)).trans r1)
 have R3 := hZ9 (show W.heap[w.heap.size + 3]? = some (Obj.cells #[.slice none 0 0, .map (some (w.heap.size + 2))] 53) by rw [hW, ← hs2]; exact heap_alloc_new _ _)
 have HM0 := hZ9 (show OwnS 55 W (w.heap.size + 2) [] by
  have h := OwnS.made 55 W1
  rw [← hW2, hs1] at h
  exact h.below hb3)
 have HbW := hZ9 (show Below w.heap.size w W from hw0.trans (hbW1.mono (by omega)))
 have HSt0 := hZ9 (show StBox (w.heap.size + 3) (w.heap.size + 2) (w.heap.size + 4) [] W from
  ⟨⟨none, 0, [], R3.out, World.ownsRow_nil _ _ _ _, rfl, fun x hx => by cases hx⟩, ⟨[], HM0.out, fun b => rfl, Nat.le_refl _⟩, by omega, by omega, by omega⟩)
 have HW := hZ9 (show W = (((w.alloc (Obj.cells #[.slice sa X.length sc, .slice wa WL.length wc, .slice ca CL.length cc] 37)).alloc (Obj.cells #[.slice none 0 0, .slice none 0 0, .slice none 0 0] 37)).alloc (.map #[] 0)).alloc (Obj.cells #[.slice none 0 0, .map (some (w.heap.size + 2))] 53) by rw [hW, hW2, hW1])
 have He := hZ9 he
 have Hr := hZ9 hr
 have Hl := hZ9 hl
 have Hp := hZ9 hp
 have Hf := hZ9 hf
 have HX := hZ9 hX
 have Hrd := hZ9 hrd
 have Hky := hZ9 hky
 have HXl := hZ9 hXl
 have HWL := hZ9 hWL
 have HCL := hZ9 hCL
 have HWn := hZ9 hWn
 have HCn := hZ9 hCn
 have HA := hZ9 hA
 have Hs3 := hZ9 hs3
 obtain ⟨a2, c2, e2, hX1, hX2, -⟩ := hX
 cases e2
 have hX3 := hX2.1
 unfold maxLen at hX3
 clear hW1 r0 r1 hw0 hz hW2 hb2 hs2 hW hb3 hbW1 hs1 he hr hp hf hrd hky hWL hCL hA hs3 hX2 hl hWn hCn
 have x0 := cell_of_row W _ 0 _ _ _ R0.out
 go_enter Try.func9, Try.ntmps9
 go_upto_region 2 with (fail)
 rw [← HW.out]
 rw [show w.heap.size + 1 + 1 + 1 = w.heap.size + 3 from rfl, show w.heap.size + 1 + 1 = w.heap.size + 2 from rfl]
 go_wp2_with fail
 go_loopw [29] (fun i wr => ∃ k : Nat, k ≤ X.length ∧ i = .int .i64 k ∧ StBox (w.heap.size + 3) (w.heap.size + 2) (w.heap.size + 4) (plB (X.take k)) wr ∧ Below (w.heap.size + 2) W wr) (fun i _ => X.length - (intOf i).toNat)
 case atStart => exact ⟨0, Nat.zero_le _, rfl, HSt0.out, Below.refl _ _⟩
 case round =>
  obtain ⟨wo, rfl⟩ : ∃ wo : World, wo = wr := ⟨_, rfl⟩
  obtain ⟨k, hk, rfl, hst, hb⟩ := hrel
  have HSt := hZ9 hst
  have Hb := hZ9 hb
  have hk0 : (0 : Int) ≤ (k : Int) := Int.natCast_nonneg _
  have hbw := HbW.out.trans (hb.mono (show w.heap.size ≤ w.heap.size + 2 by omega))
  have Hbw := hZ9 hbw
  by_cases hlt : k < X.length
  · have hk1 : (k : Int) < (X.length : Int) := by omega
    obtain ⟨a3, c3, e3, -, -, hx⟩ := HX.out.below hbw
    cases e3
    obtain ⟨bb, o, rfl, hB, hx⟩ := hx (by rintro rfl; cases hlt)
    have hx := hx k hlt
    have x0 : wo.cell? ⟨bb, o + k * 12, none⟩ = some (.int .i64 (X[k]).b.ac) := hx 0 (by decide)
    have x1 : wo.cell? ⟨bb, o + k * 12 + 1, none⟩ = some (.int .i64 (X[k]).b.sb) := hx 1 (by decide)
    have x2 : wo.cell? ⟨bb, o + k * 12 + 2, none⟩ = some (.string (X[k]).b.pr) := hx 2 (by decide)
    have x3 : wo.cell? ⟨bb, o + k * 12 + 3, none⟩ = some (.int .i64 (X[k]).b.ix) := hx 3 (by decide)
    have x4 : wo.cell? ⟨bb, o + k * 12 + 4, none⟩ = some (.int .i64 (X[k]).b.kd) := hx 4 (by decide)
    have x5 : wo.cell? ⟨bb, o + k * 12 + 5, none⟩ = some (.slice (X[k]).za (X[k]).zn (X[k]).zc) := hx 5 (by decide)
    have x6 : wo.cell? ⟨bb, o + k * 12 + 6, none⟩ = some (.int .i64 (X[k]).b.f) := hx 6 (by decide)
    have x7 : wo.cell? ⟨bb, o + k * 12 + 7, none⟩ = some (.int .i64 (X[k]).b.t) := hx 7 (by decide)
    have x8 : wo.cell? ⟨bb, o + k * 12 + 8, none⟩ = some (.int .i64 (X[k]).b.un) := hx 8 (by decide)
    have x9 : wo.cell? ⟨bb, o + k * 12 + 9, none⟩ = some (.int .i64 (X[k]).b.lf) := hx 9 (by decide)
    have x10 : wo.cell? ⟨bb, o + k * 12 + 10, none⟩ = some (.int .i64 (X[k]).b.pt) := hx 10 (by decide)
    have x11 : wo.cell? ⟨bb, o + k * 12 + 11, none⟩ = some (.bool (X[k]).b.sh) := hx 11 (by decide)
    have HRd := hZ9 (Hrd.out _ (List.getElem_mem hlt))
    have HKy := hZ9 (Hky.out _ (List.getElem_mem hlt))
    have HTk := hZ9 (plB_take X k hlt)
    clear hx hst hb hbw
    generalize X[k] = y at *
    obtain ⟨Y, hY⟩ : ∃ Y, Y = wo.alloc (Obj.cells #[.int .i64 y.b.ac, .int .i64 y.b.sb, .string y.b.pr, .int .i64 y.b.ix, .int .i64 y.b.kd, .slice y.za y.zn y.zc, .int .i64 y.b.f, .int .i64 y.b.t, .int .i64 y.b.un, .int .i64 y.b.lf, .int .i64 y.b.pt, .bool y.b.sh] 26) := ⟨_, rfl⟩
    have hbY : Below wo.heap.size wo Y := by rw [hY]; exact (Below.refl _ _).alloc (Nat.le_refl _) _
    have YN := hZ9 (show Y.heap[wo.heap.size]? = some (Obj.cells #[.int .i64 y.b.ac, .int .i64 y.b.sb, .string y.b.pr, .int .i64 y.b.ix, .int .i64 y.b.kd, .slice y.za y.zn y.zc, .int .i64 y.b.f, .int .i64 y.b.t, .int .i64 y.b.un, .int .i64 y.b.lf, .int .i64 y.b.pt, .bool y.b.sh] 26) by rw [hY]; exact heap_alloc_new _ _)
    have hyn : wo.heap.size < Y.heap.size := (ltB9 YN.out)
    have hbS := (ltB9 R3.out)
    have HwoS := hZ9 (show w.heap.size + 4 ≤ wo.heap.size by have := Hb.out.size; omega)
    have HbY := hZ9 (Hb.out.trans (hbY.mono (by have := HwoS.out; omega)))
    have HStY := hZ9 (HSt.out.keep hbY)
    have HbaseY := hZ9 (show w.heap.size + 4 ≤ Y.heap.size by have := HwoS.out; omega)
    obtain ⟨lr, lcr, R, t1, t2, s3, t4⟩ := HSt.out.row
    have s1 := (hbY.block _ (ltB9 t1)).trans t1
    have s2 := ownsRow_below t2 hbY
    have s4 : ∀ x ∈ R, BuO (w.heap.size + 4) Y x := fun x hx => (t4 x hx).below hbY
    obtain ⟨Kl, k1, k2, k3⟩ := HStY.out.has
    have HRl0 := HSt.out
    have HRow := hZ9 s2
    have HR1 := hZ9 s1
    have HR3 := hZ9 s3
    have HR4 := hZ9 s4
    have HK1 := hZ9 k1
    have HK2 := hZ9 k2
    have HK3 := hZ9 k3
    have HRl := hZ9 (show R.length ≤ 400000 by rw [← plB_len, s3, plB_len, List.length_take]; have := HXl.out; omega)
    have hrb : ∀ g, (Value.slice lr R.length lcr).ownBlock = some g → w.heap.size + 4 ≤ g ∧ g < wo.heap.size := fun g hg => by
     exact ⟨(ownsRow_block s2 g hg).1, (ownsRow_block t2 g hg).2⟩
    have HAw := hZ9 (show ∀ Z, Y.grownBy Z (Value.slice lr R.length lcr).ownBlock → Z.cell? ⟨w.heap.size + 3, 0, none⟩ = some (.slice lr R.length lcr) ∧ (Z.cell? ⟨wo.heap.size, 0, none⟩ = some (.int .i64 y.b.ac) ∧ Z.cell? ⟨wo.heap.size, 1, none⟩ = some (.int .i64 y.b.sb) ∧ Z.cell? ⟨wo.heap.size, 2, none⟩ = some (.string y.b.pr) ∧ Z.cell? ⟨wo.heap.size, 3, none⟩ = some (.int .i64 y.b.ix) ∧ Z.cell? ⟨wo.heap.size, 4, none⟩ = some (.int .i64 y.b.kd) ∧ Z.cell? ⟨wo.heap.size, 5, none⟩ = some (.slice y.za y.zn y.zc) ∧ Z.cell? ⟨wo.heap.size, 6, none⟩ = some (.int .i64 y.b.f) ∧ Z.cell? ⟨wo.heap.size, 7, none⟩ = some (.int .i64 y.b.t) ∧ Z.cell? ⟨wo.heap.size, 8, none⟩ = some (.int .i64 y.b.un) ∧ Z.cell? ⟨wo.heap.size, 9, none⟩ = some (.int .i64 y.b.lf) ∧ Z.cell? ⟨wo.heap.size, 10, none⟩ = some (.int .i64 y.b.pt) ∧ Z.cell? ⟨wo.heap.size, 11, none⟩ = some (.bool y.b.sh)) from fun Z hZ => by
     have q1 := (hZ.block _ (ltB9 s1) (fun e => by have := (hrb _ e.symm).1; omega)).trans s1
     have q2 := (hZ.block _ hyn (fun e => by have := (hrb _ e.symm).2; omega)).trans YN.out
     exact ⟨cell_of_row Z _ 0 _ _ _ q1, ⟨cell_of_row Z _ 0 _ _ _ q2, cell_of_row Z _ 1 _ _ _ q2, cell_of_row Z _ 2 _ _ _ q2, cell_of_row Z _ 3 _ _ _ q2, cell_of_row Z _ 4 _ _ _ q2, cell_of_row Z _ 5 _ _ _ q2, cell_of_row Z _ 6 _ _ _ q2, cell_of_row Z _ 7 _ _ _ q2, cell_of_row Z _ 8 _ _ _ q2, cell_of_row Z _ 9 _ _ _ q2, cell_of_row Z _ 10 _ _ _ q2, cell_of_row Z _ 11 _ _ _ q2⟩⟩)
    have HGb := hZ9 (fun Z (hZ : Y.grownBy Z (Value.slice lr R.length lcr).ownBlock) => HbY.out.grown hZ (show w.heap.size + 2 ≤ Y.heap.size by have := HbaseY.out; omega) (fun g hg => by have := (hrb g hg).1; omega))
    have HCl := hZ9 (fun Z (hZ : Y.grownBy Z (Value.slice lr R.length lcr).ownBlock) => clone_calls y Z (HRd.out.below (HbW.out.trans ((HGb.out Z hZ).mono (by omega)))))
    have HrbH := hZ9 hrb
    have HY := hZ9 hY
    clear hY hbY s1 s2 s3 s4 t1 t2 t4 k1 k2 k3 hrb HRl0 hbS
    go_upto_region 5 with (fail)
    rw [← HY.out]
    clear x0 x1 x2 x3 x4 x5 x6 x7 x8 x9 x10 x11
    refine wp_region_free5 9 8 (by decide) (avC Y (Value.slice lr R.length lcr).ownBlock) (avPhi (w.heap.size + 3) (w.heap.size + 4) Y.heap.size (.slice lr R.length lcr) y R) (by kernel_rfl) (by kernel_rfl) (show avC _ _ false _ from (Below.refl _ _).drew) ?_ ?_
    · generalize hfr : (fun v : Nat → Value => _) = fr
      simp only [List.take_succ_cons, List.take_zero, List.map_cons, List.map_nil, putsL, List.setIfInBounds_toArray, List.set_cons_succ, List.set_cons_zero, Nat.zero_add, Nat.reduceAdd] at hfr
      simp only [List.take_succ_cons, List.take_zero, FreeHead5]
      refine ⟨?_, ?_, ?_, ?_, ?_, ?_, ?_, ?_, ?_, trivial⟩
      · intro b v w5 hbf hC hd K hK
        rw [← hfr] at hK ⊢
        go_simp
        exact hK _ _ hC (fun j y _ h => avPhi_stays (Below.refl _ _) j y h) rfl
      · intro b v w5 hbf hC hd K hK
        rw [← hfr] at hK ⊢
        go_simp
        exact hK _ _ hC (fun j y _ h => avPhi_stays (Below.refl _ _) j y h) rfl
      · intro b v w5 hbf hC hd K hK
        obtain ⟨f1, -⟩ := hd
        have e1 : v 1 = _ := f1
        rw [← hfr] at hK ⊢
        simp only [e1] at hK ⊢
        go_simp
        exact hK _ _ hC (fun j y _ h => avPhi_stays (Below.refl _ _) j y h) rfl
      · intro b v w5 hbf hC hd K hK
        obtain ⟨f2, -⟩ := hd
        have e2 : v 2 = _ := f2
        rw [← hfr] at hK ⊢
        simp only [e2] at hK ⊢
        go_simp
        exact hK _ _ hC (fun j y _ h => avPhi_stays (Below.refl _ _) j y h) rfl
      · intro b v w5 hbf hC hd K hK
        obtain ⟨f3, -⟩ := hd
        have e3 : v 3 = _ := f3
        obtain ⟨p0, ⟨g0, g1, g2, g3, g4, g5, g6, g7, g8, g9, g10, g11⟩⟩ := HAw.out w5 hC.grown
        rw [← hfr] at hK ⊢
        simp only [e3] at hK ⊢
        go_simp
        exact hK _ _ hC (fun j y _ h => avPhi_stays (Below.refl _ _) j y h) rfl
      · intro b v w5 hbf hC hd K hK
        obtain ⟨p0, ⟨g0, g1, g2, g3, g4, g5, g6, g7, g8, g9, g10, g11⟩⟩ := HAw.out w5 hC.grown
        rw [← hfr] at hK ⊢
        go_simp
        exact hK _ _ hC (fun j y _ h => avPhi_stays (Below.refl _ _) j y h) rfl
      · intro b v w5 hbf hC hd K hK
        obtain ⟨f5, -⟩ := hd
        have e5 : v 5 = _ := f5
        rw [← hfr] at hK ⊢
        simp only [e5] at hK ⊢
        go_simp
        refine (HCl.out w5 hC.grown).mono ?_
        rintro e w6 ⟨z, rfl, hz, hzo, hb4⟩
        exact hK _ _ (hC.below hb4) (fun j y _ h => avPhi_stays hb4 j y h) ⟨z, rfl, hz, hzo.down (by have := hC.grown.size; have := HbaseY.out; omega)⟩
      · intro b v w5 hbf hC hd K hK
        obtain ⟨f6, -⟩ := hd
        obtain ⟨z, e6, hz, hzo⟩ : ∃ z, v 6 = buVal z ∧ z.b = y.b ∧ BuO (w.heap.size + 4) w5 z := f6
        have Hz := hZ9 hz
        clear hz
        rw [← hfr] at hK ⊢
        simp only [e6] at hK ⊢
        unfold buVal at hK ⊢
        go_simp
        exact hK _ _ (hC.below ((Below.refl _ _).alloc (Nat.le_refl _) _)) (fun j y _ h => avPhi_stays ((Below.refl _ _).alloc (Nat.le_refl _) _) j y h) ⟨z, _, rfl, Hz.out, hzo.below ((Below.refl _ _).alloc (Nat.le_refl _) _), hC.grown.size, heap_alloc_new _ _⟩
      intro b v w5 hbf hC hd K hK
      obtain rfl : b = false := by first | exact hbf rfl | exact hbf trivial | simpa using hbf
      obtain ⟨f4, f7, -⟩ := hd
      have e4 : v 4 = _ := f4
      obtain ⟨z, g, e7, hz, hzo, hng, hgz⟩ : ∃ (z : BuX) (g : Nat), v 7 = .slice (some ⟨g, 0, none⟩) 1 1 ∧ z.b = y.b ∧ BuO (w.heap.size + 4) w5 z ∧ Y.heap.size ≤ g ∧ w5.heap[g]? = some (Obj.cells #[.int .i64 z.b.ac, .int .i64 z.b.sb, .string z.b.pr, .int .i64 z.b.ix, .int .i64 z.b.kd, .slice z.za z.zn z.zc, .int .i64 z.b.f, .int .i64 z.b.t, .int .i64 z.b.un, .int .i64 z.b.lf, .int .i64 z.b.pt, .bool z.b.sh] 26) := f7
      have hown := ownsRow_below HRow.out (show Below Y.heap.size Y w5 from hC)
      have hle := (show Below Y.heap.size Y w5 from hC).size
      refine wp_append_bu1 _ _ rfl (w.heap.size + 4) (by have := HbaseY.out; omega) (.slice lr R.length lcr) R (by rw [← hfr]; exact e4) hown z g (by rw [← hfr]; exact e7) hgz (by have := HRl.out; omega) ?_
      intro v' w6 hown6 hg6
      obtain ⟨a6, c6, rfl, -, -⟩ := own_shape hown6
      exact hK _ _ (hC.app hg6) (fun j y hj h => avPhi_grown hown hg6 (fun g hg => (ownsRow_block HRow.out g hg).2) j y hj h) ⟨z, a6, c6, rfl, hz, hzo.growT hown (by decide) hg6, hown6⟩
    intro v w5 hC hall
    have hg : Y.grownBy w5 (Value.slice lr R.length lcr).ownBlock := hC
    have e0 : v 0 = .pointer (some ⟨w.heap.size + 3, 0, none⟩) := hall.1.1.1.1.1.1.1.1.2
    obtain ⟨z, a7, c7, e8, hz, hzo, hown⟩ : ∃ (z : BuX) (a : Option Addr) (c : Nat), v 8 = .slice a (R ++ [z]).length c ∧ z.b = y.b ∧ BuO (w.heap.size + 4) w5 z ∧ w5.ownsRow (w.heap.size + 4) 26 12 (.slice a (R ++ [z]).length c) (R ++ [z]).length ((R ++ [z]).flatMap buCells) := hall.2
    have hSY := (ltB9 HR1.out)
    have S5 := hZ9 ((hg.block _ hSY (fun e => by have := (HrbH.out _ e.symm).1; omega)).trans HR1.out)
    have C5 := hZ9 ((hg.block _ hyn (fun e => by have := (HrbH.out _ e.symm).2; omega)).trans YN.out)
    have hM5 := (HK1.out.keep (hg.block _ HK1.out.lt (fun e => by have := (HrbH.out _ e.symm).1; omega)))
    have HGb5 := HGb.out w5 hg
    obtain ⟨R', hR'⟩ : ∃ R', R' = R ++ [z] := ⟨_, rfl⟩
    rw [← hR'] at e8 hown
    have HPl := hZ9 (show plB R' = plB (X.take (k + 1)) by rw [hR', plB_append, HR3.out, HTk.out]; unfold plB; rw [List.map_singleton, hz])
    have sc0 := cell_of_row w5 _ 0 _ _ _ S5.out
    have sf0 := frozen_of_row w5 _ 0 _ _ S5.out
    obtain ⟨U, hU⟩ : ∃ U, U = w5.setCell ⟨w.heap.size + 3, 0, none⟩ (.slice a7 R'.length c7) := ⟨_, rfl⟩
    have U0 := hZ9 (show U.heap[w.heap.size + 3]? = some (Obj.cells #[.slice a7 R'.length c7, .map (some (w.heap.size + 2))] 53) by rw [hU]; exact row_set _ S5.out)
    have hCS : wo.heap.size ≠ w.heap.size + 3 := by have := HwoS.out; omega
    have UC := hZ9 (show U.heap[wo.heap.size]? = some (Obj.cells #[.int .i64 y.b.ac, .int .i64 y.b.sb, .string y.b.pr, .int .i64 y.b.ix, .int .i64 y.b.kd, .slice y.za y.zn y.zc, .int .i64 y.b.f, .int .i64 y.b.t, .int .i64 y.b.un, .int .i64 y.b.lf, .int .i64 y.b.pt, .bool y.b.sh] 26) by rw [hU]; exact row_other C5.out hCS)
    have HbU := hZ9 (show Below (w.heap.size + 2) W U by rw [hU]; exact HGb5.trans ⟨rfl, rfl, rfl, by simp, fun k hk => Below.heap_setCell _ _ _ _ (by show k ≠ w.heap.size + 3; omega)⟩)
    have HRo := hZ9 (show U.ownsRow (w.heap.size + 4) 26 12 (.slice a7 R'.length c7) R'.length (R'.flatMap buCells) by
     rw [hU]
     exact own_setCell1 hown (own_other hown S5.out (by decide)))
    have HRb := hZ9 (show ∀ r ∈ R', BuO (w.heap.size + 4) U r from fun r hr => by
     have h1 : BuO (w.heap.size + 4) w5 r := by
      rw [hR', List.mem_append] at hr
      rcases hr with hr | hr
      · exact (HR4.out r hr).growT HRow.out (by decide) hg
      rw [List.mem_singleton.1 hr]; exact hzo
     refine ⟨?_, h1.sizes, h1.p, h1.len⟩
     rw [hU]
     exact own_setCell1 h1.row (own_other h1.row S5.out (by decide)))
    have HMU := hZ9 (show OwnS 55 U (w.heap.size + 2) (Kl.map idVal) from hM5.keep (by rw [hU]; exact Below.heap_setCell _ _ _ _ (by show w.heap.size + 2 ≠ w.heap.size + 3; omega)))
    have HU := hZ9 hU
    have hSU := (ltB9 U0.out)
    have hCU := (ltB9 UC.out)
    have HAu := hZ9 (show ∀ Z, Below U.heap.size U Z → Z.cell? ⟨w.heap.size + 3, 1, none⟩ = some (.map (some (w.heap.size + 2))) ∧ (Z.cell? ⟨wo.heap.size, 0, none⟩ = some (.int .i64 y.b.ac) ∧ Z.cell? ⟨wo.heap.size, 1, none⟩ = some (.int .i64 y.b.sb) ∧ Z.cell? ⟨wo.heap.size, 2, none⟩ = some (.string y.b.pr) ∧ Z.cell? ⟨wo.heap.size, 3, none⟩ = some (.int .i64 y.b.ix) ∧ Z.cell? ⟨wo.heap.size, 4, none⟩ = some (.int .i64 y.b.kd) ∧ Z.cell? ⟨wo.heap.size, 5, none⟩ = some (.slice y.za y.zn y.zc) ∧ Z.cell? ⟨wo.heap.size, 6, none⟩ = some (.int .i64 y.b.f) ∧ Z.cell? ⟨wo.heap.size, 7, none⟩ = some (.int .i64 y.b.t) ∧ Z.cell? ⟨wo.heap.size, 8, none⟩ = some (.int .i64 y.b.un) ∧ Z.cell? ⟨wo.heap.size, 9, none⟩ = some (.int .i64 y.b.lf) ∧ Z.cell? ⟨wo.heap.size, 10, none⟩ = some (.int .i64 y.b.pt) ∧ Z.cell? ⟨wo.heap.size, 11, none⟩ = some (.bool y.b.sh)) from fun Z hZ => by
     have q1 := (hZ.block _ hSU).trans U0.out
     have q2 := (hZ.block _ hCU).trans UC.out
     exact ⟨cell_of_row Z _ 1 _ _ _ q1, cell_of_row Z _ 0 _ _ _ q2, cell_of_row Z _ 1 _ _ _ q2, cell_of_row Z _ 2 _ _ _ q2, cell_of_row Z _ 3 _ _ _ q2, cell_of_row Z _ 4 _ _ _ q2, cell_of_row Z _ 5 _ _ _ q2, cell_of_row Z _ 6 _ _ _ q2, cell_of_row Z _ 7 _ _ _ q2, cell_of_row Z _ 8 _ _ _ q2, cell_of_row Z _ 9 _ _ _ q2, cell_of_row Z _ 10 _ _ _ q2, cell_of_row Z _ 11 _ _ _ q2⟩)
    simp only [List.take_succ_cons, List.take_zero, List.map_cons, List.map_nil, putsL, List.setIfInBounds_toArray, List.set_cons_succ, List.set_cons_zero, Nat.zero_add, Nat.reduceAdd, List.drop_succ_cons, List.drop_zero]
    simp only [e0, e8]
    generalize v 1 = y1, v 2 = y2, v 3 = y3, v 4 = y4, v 5 = y5, v 6 = y6, v 7 = y7
    clear e0 e8 hall hC hU hg hSY hM5 HGb5 hR' hz hzo hown v
    go_upto_region 6 with (fail)
    rw [← HU.out]
    clear sc0 sf0
    refine wp_region_free3 6 (fun w' => Below U.heap.size U w') (aePhi (w.heap.size + 3) (w.heap.size + 2) y) (by kernel_rfl) (by kernel_rfl) (Below.refl _ _).drew ?_ ?_
    · generalize hfr : (fun v : Nat → Value => _) = fr
      simp only [List.take_succ_cons, List.take_zero, List.map_cons, List.map_nil, putsL, List.setIfInBounds_toArray, List.set_cons_succ, List.set_cons_zero, Nat.zero_add, Nat.reduceAdd] at hfr
      simp only [List.take_succ_cons, List.take_zero, FreeHead]
      refine ⟨?_, ?_, ?_, ?_, ?_, ?_, trivial⟩
      · intro v w5 hC hd K hK
        rw [← hfr] at hK ⊢
        go_simp
        exact hK _ _ hC (aePhi_stays (Below.refl _ _)) rfl
      · intro v w5 hC hd K hK
        obtain ⟨f0, -⟩ := hd
        have e0 : v 0 = _ := f0
        rw [← hfr] at hK ⊢
        simp only [e0] at hK ⊢
        go_simp
        exact hK _ _ hC (aePhi_stays (Below.refl _ _)) rfl
      · intro v w5 hC hd K hK
        obtain ⟨f1, -⟩ := hd
        have e1 : v 1 = _ := f1
        rw [← hfr] at hK ⊢
        simp only [e1] at hK ⊢
        go_simp
        exact hK _ _ hC (aePhi_stays (Below.refl _ _)) rfl
      · intro v w5 hC hd K hK
        obtain ⟨f2, -⟩ := hd
        have e2 : v 2 = _ := f2
        obtain ⟨p1, g0, g1, g2, g3, g4, g5, g6, g7, g8, g9, g10, g11⟩ := HAu.out w5 hC
        rw [← hfr] at hK ⊢
        simp only [e2] at hK ⊢
        go_simp
        exact hK _ _ hC (aePhi_stays (Below.refl _ _)) rfl
      · intro v w5 hC hd K hK
        obtain ⟨p1, g0, g1, g2, g3, g4, g5, g6, g7, g8, g9, g10, g11⟩ := HAu.out w5 hC
        rw [← hfr] at hK ⊢
        go_simp
        exact hK _ _ hC (aePhi_stays (Below.refl _ _)) rfl
      intro v w5 hC hd K hK
      obtain ⟨f4, -⟩ := hd
      have e4 : v 4 = _ := f4
      rw [← hfr] at hK ⊢
      simp only [e4] at hK ⊢
      go_simp
      refine (of_calls y w5).mono ?_
      rintro e w6 ⟨rfl, hb4⟩
      exact hK _ _ (hC.trans (hb4.mono hC.size)) (aePhi_stays hb4) rfl
    intro v w8 hC hall
    have e3 : v 3 = .map (some (w.heap.size + 2)) := hall.1.1.2
    have e5 : v 5 = idVal y.b := hall.2
    simp only [List.take_succ_cons, List.take_zero, List.map_cons, List.map_nil, putsL, List.setIfInBounds_toArray, List.set_cons_succ, List.set_cons_zero, Nat.zero_add, Nat.reduceAdd, List.drop_succ_cons, List.drop_zero]
    simp only [e3, e5]
    generalize v 0 = y0, v 1 = y1, v 2 = y2, v 4 = y4
    have HM8 := hZ9 (HMU.out.below hC)
    have HR8 := hZ9 (ownsRow_below HRo.out hC)
    have HB8 := hZ9 (show ∀ r ∈ R', BuO (w.heap.size + 4) w8 r from fun r hr => (HRb.out r hr).below hC)
    have U8 := hZ9 ((hC.block _ hSU).trans U0.out)
    have Hb8 := hZ9 (HbU.out.trans (hC.mono (show w.heap.size + 2 ≤ U.heap.size by omega)))
    obtain ⟨lk, hlk⟩ := keyD HKy.out
    have Hlk := hZ9 hlk
    have HKln := hZ9 (show (Kl.map idVal).length < maxLen by rw [List.length_map]; have := HK3.out; rw [plB_len, List.length_take] at this; have := HXl.out; unfold maxLen; omega)
    clear e3 e5 hall hC v HAu hlk
    refine wpList_put_set lawD Try.underlying51 _ rfl _ _ _ rfl (w.heap.size + 2) (Kl.map idVal) rfl HM8.out HKln.out (idVal y.b) lk rfl rfl Hlk.out ?_
    intro w9 hm9 hg9
    obtain ⟨es, cc9, hmap⟩ := HM8.out.map
    have hno : ∀ {v : Value} {e : TypeId} {b2 sz n : Nat} {xs : List Value}, w8.ownsRow b2 e sz v n xs → v.ownBlock ≠ some (w.heap.size + 2) := fun {v e b2 sz n xs} ho hq => by
     rcases ho.2 with ⟨rfl, -⟩ | ⟨g', cap', cur, rfl, -, hh, -⟩
     · cases hq
     simp only [Value.ownBlock, Option.some.injEq] at hq
     subst hq
     rw [hmap] at hh
     cases hh
    have HSt9 := hZ9 (show StBox (w.heap.size + 3) (w.heap.size + 2) (w.heap.size + 4) (plB (X.take (k + 1))) w9 from
     ⟨⟨a7, c7, R', (hg9.block _ (ltB9 U8.out) (fun e => by have := Option.some.inj e; omega)).trans U8.out, own_grow HR8.out hg9 (Or.inr (hno HR8.out)), HPl.out, fun r hr => ⟨own_grow (HB8.out r hr).row hg9 (Or.inr (hno (HB8.out r hr).row)), (HB8.out r hr).sizes, (HB8.out r hr).p, (HB8.out r hr).len⟩⟩,
     ⟨Kl ++ [y.b], by rw [List.map_append]; exact hm9, fun b => by rw [List.any_append, HK2.out, HTk.out, existsB_append]; simp, by rw [List.length_append, List.length_singleton, HTk.out, List.length_append, List.length_singleton]; have := HK3.out; omega⟩, by omega, by omega, by omega⟩)
    have Hb9 := hZ9 (Hb8.out.grown hg9 (show w.heap.size + 2 ≤ w8.heap.size by have := (ltB9 U8.out); omega) (fun g hg => by have := Option.some.inj hg; omega))
    clear hm9 hg9 hmap hno
    go_wp2
    exact ⟨⟨k + 1, hlt, by go_num, HSt9.out, Hb9.out⟩, by simp [intOf]; omega⟩
  have hk2 : ¬ (k : Int) < (X.length : Int) := by omega
  have HStE := hZ9 (show StBox (w.heap.size + 3) (w.heap.size + 2) (w.heap.size + 4) (plB X) wo by rw [show X.take k = X from List.take_of_length_le (by omega)] at hst; exact hst)
  have HwoS := hZ9 (show w.heap.size + 4 ≤ wo.heap.size by have := hb.size; have := Hs3.out; omega)
  have HAb := hZ9 (show ∀ Z, Below wo.heap.size wo Z → Z.cell? ⟨w.heap.size, 1, none⟩ = some (.slice wa WL.length wc) ∧ Z.cell? ⟨w.heap.size, 2, none⟩ = some (.slice ca CL.length cc) from fun Z hZ => by
   have hlt0 := (ltB9 R0.out)
   have q := (hZ.block _ (by have := hb.size; omega)).trans ((hb.block _ (by omega)).trans R0.out)
   exact ⟨cell_of_row Z _ 1 _ _ _ q, cell_of_row Z _ 2 _ _ _ q⟩)
  have hle := Hbw.out.size
  have HWZ := hZ9 (fun Z (hZ : Below wo.heap.size wo Z) => HWL.out.below (Hbw.out.trans (hZ.mono hle)))
  have HCZ := hZ9 (fun Z (hZ : Below wo.heap.size wo Z) => HCL.out.below (Hbw.out.trans (hZ.mono hle)))
  clear hst hb hbw hle
  go_upto_region 8 with (fail)
  refine wp_region_free3 8 (fun w' => Below wo.heap.size wo w') (acPhi w.heap.size (w.heap.size + 4) wo.heap.size wa ca wc cc WL CL) (by kernel_rfl) (by kernel_rfl) (Below.refl _ _).drew ?_ ?_
  · generalize hfr : (fun v : Nat → Value => _) = fr
    simp only [List.take_succ_cons, List.take_zero, List.map_cons, List.map_nil, putsL, List.setIfInBounds_toArray, List.set_cons_succ, List.set_cons_zero, Nat.zero_add, Nat.reduceAdd] at hfr
    simp only [List.take_succ_cons, List.take_zero, FreeHead]
    refine ⟨?_, ?_, ?_, ?_, ?_, ?_, ?_, ?_, trivial⟩
    · intro v w5 hC hd K hK
      rw [← hfr] at hK ⊢
      go_simp
      exact hK _ _ hC (acPhi_stays (Below.refl _ _)) rfl
    · intro v w5 hC hd K hK
      obtain ⟨f0, -⟩ := hd
      have e0 : v 0 = _ := f0
      obtain ⟨p1, p2⟩ := HAb.out w5 hC
      rw [← hfr] at hK ⊢
      simp only [e0] at hK ⊢
      go_simp
      exact hK _ _ hC (acPhi_stays (Below.refl _ _)) rfl
    · intro v w5 hC hd K hK
      obtain ⟨f1, -⟩ := hd
      have e1 : v 1 = _ := f1
      refine wp_append_copy (c := i5Cells) (sz := 5) (fun _ => rfl) i5_one 165 34 _ 40 Try.underlying34 Try.walInfo rfl (by decide) rfl _ _ rfl (w.heap.size + 4) (by have := HwoS.out; have := hC.size; omega) none _ WL rfl (by rw [← hfr]; exact e1) (World.ownsRow_nil _ _ _ _) (HWZ.out w5 hC) (by have := HWn.out; unfold maxLen; omega) (by have := HWn.out; omega) ?_
      intro v' w6 h1 hb4
      obtain ⟨a6, c6, rfl, -, -⟩ := own_shape h1
      exact hK _ _ (hC.trans (hb4.mono hC.size)) (acPhi_stays hb4) ⟨a6, c6, rfl, h1⟩
    · intro v w5 hC hd K hK
      rw [← hfr] at hK ⊢
      go_simp
      exact hK _ _ hC (acPhi_stays (Below.refl _ _)) rfl
    · intro v w5 hC hd K hK
      obtain ⟨f3, -⟩ := hd
      have e3 : v 3 = _ := f3
      obtain ⟨p1, p2⟩ := HAb.out w5 hC
      rw [← hfr] at hK ⊢
      simp only [e3] at hK ⊢
      go_simp
      exact hK _ _ hC (acPhi_stays (Below.refl _ _)) rfl
    · intro v w5 hC hd K hK
      obtain ⟨f4, -⟩ := hd
      have e4 : v 4 = _ := f4
      refine wp_append_copy (c := i5Cells) (sz := 5) (fun _ => rfl) i5_one 167 35 _ 40 Try.underlying35 Try.cntInfo rfl (by decide) rfl _ _ rfl (w.heap.size + 4) (by have := HwoS.out; have := hC.size; omega) none _ CL rfl (by rw [← hfr]; exact e4) (World.ownsRow_nil _ _ _ _) (HCZ.out w5 hC) (by have := HCn.out; unfold maxLen; omega) (by have := HCn.out; omega) ?_
      intro v' w6 h1 hb4
      obtain ⟨a6, c6, rfl, -, -⟩ := own_shape h1
      exact hK _ _ (hC.trans (hb4.mono hC.size)) (acPhi_stays hb4) ⟨a6, c6, rfl, h1⟩
    · intro v w5 hC hd K hK
      obtain ⟨f2, f5, -⟩ := hd
      obtain ⟨a, c, e2, h2⟩ : ∃ a c, v 2 = .slice a WL.length c ∧ w5.ownsRow (w.heap.size + 4) 165 5 (.slice a WL.length c) WL.length (WL.flatMap i5Cells) := f2
      obtain ⟨a2, c2, e5, h5⟩ : ∃ a c, v 5 = .slice a CL.length c ∧ w5.ownsRow (w.heap.size + 4) 167 5 (.slice a CL.length c) CL.length (CL.flatMap i5Cells) := f5
      rw [← hfr] at hK ⊢
      simp only [e2, e5] at hK ⊢
      go_simp
      exact hK _ _ hC (acPhi_stays (Below.refl _ _)) ⟨a, c, a2, c2, rfl, h2, h5⟩
    intro v w5 hC hd K hK
    rw [← hfr] at hK ⊢
    go_simp
    exact hK _ _ (hC.alloc hC.size _) (acPhi_stays ((Below.refl _ _).alloc (Nat.le_refl _) _)) ⟨_, _, rfl, hC.size, heap_alloc_new _ _, rfl⟩
  intro v w5 hC hall
  obtain ⟨qa, qc, qa2, qc2, e6, hq, hq2⟩ : ∃ a c a2 c2, v 6 = .agg #[.slice none 0 0, .slice a WL.length c, .slice a2 CL.length c2] ∧ w5.ownsRow (w.heap.size + 4) 165 5 (.slice a WL.length c) WL.length (WL.flatMap i5Cells) ∧ w5.ownsRow (w.heap.size + 4) 167 5 (.slice a2 CL.length c2) CL.length (CL.flatMap i5Cells) := hall.1.2
  obtain ⟨g, cs, e7, hg, hrow, hcs⟩ : ∃ g cs, v 7 = .pointer (some ⟨g, 0, none⟩) ∧ wo.heap.size ≤ g ∧ w5.heap[g]? = some (Obj.cells cs 37) ∧ cs.size = 3 := hall.2
  have hb9 := below_setRow1 hC hg #[.slice none 0 0, .slice qa WL.length qc, .slice qa2 CL.length qc2]
  have hrow2 := setRow_heap w5 g cs #[.slice none 0 0, .slice qa WL.length qc, .slice qa2 CL.length qc2] _ _ hrow
  have hown2 := own_setRow1 hq (own_other hq hrow (by decide)) #[.slice none 0 0, .slice qa WL.length qc, .slice qa2 CL.length qc2]
  have hown3 := own_setRow1 hq2 (own_other hq2 hrow (by decide)) #[.slice none 0 0, .slice qa WL.length qc, .slice qa2 CL.length qc2]
  simp only [List.take_succ_cons, List.take_zero, List.map_cons, List.map_nil, putsL, List.setIfInBounds_toArray, List.set_cons_succ, List.set_cons_zero, Nat.zero_add, Nat.reduceAdd, List.drop_succ_cons, List.drop_zero]
  simp only [e6, e7]
  generalize v 0 = y0, v 1 = y1, v 2 = y2, v 3 = y3, v 4 = y4, v 5 = y5
  clear e6 e7 hall
  refine wpList_store_row rfl _ _ _ rfl g #[.slice none 0 0, .slice qa WL.length qc, .slice qa2 CL.length qc2] rfl rfl 37 _ hrow (by kernel_rfl) hcs (by simp [Value.oneCell']) ?_
  obtain ⟨Q, hQ⟩ : ∃ Q, Q = w5.setRow g #[.slice none 0 0, .slice qa WL.length qc, .slice qa2 CL.length qc2] := ⟨_, rfl⟩
  rw [← hQ] at hrow2 hown2 hown3 hb9 ⊢
  have HGr := hZ9 hrow2
  have HO2 := hZ9 hown2
  have HO3 := hZ9 hown3
  have HStQ := hZ9 (HStE.out.keep hb9)
  have HbQ := hZ9 (Hb.out.trans (hb9.mono (show w.heap.size + 2 ≤ wo.heap.size by have := HwoS.out; omega)))
  have hgn : w.heap.size + 4 ≤ g := by have := HwoS.out; omega
  have HwQ := hZ9 (HbW.out.trans (HbQ.out.mono (show w.heap.size ≤ w.heap.size + 2 by omega)))
  have HAn := hZ9 (anchor_calls ve l ac Q (He.out.below HwQ.out))
  clear hC hq hq2 hrow hcs hown2 hown3 hrow2 hQ hb9 hg HAb HWZ HCZ v
  go_wp2_with fail
  refine HAn.out.mono ?_
  rintro e Z ⟨rfl, hbz⟩
  dsimp only
  have HSz := hZ9 (HStQ.out.keep hbz)
  have HGz := hZ9 ((hbz.block _ (ltB9 HGr.out)).trans HGr.out)
  have HOz2 := hZ9 (ownsRow_below HO2.out hbz)
  have HOz3 := hZ9 (ownsRow_below HO3.out hbz)
  have HBz := hZ9 (HbQ.out.trans (hbz.mono (show w.heap.size + 2 ≤ Q.heap.size by have h1 := HbQ.out.size; have h2 := Hs3.out; omega)))
  clear hbz HStQ HGr HO2 HO3 HbQ HwQ HAn
  by_cases ht0 : 0 ≤ t
  · by_cases ht1 : t < 12622780800
    · by_cases ha : 0 < anchorL l ac
      · have HOn := hZ9 (show advOn l ac t from ⟨ht0, ht1, ha⟩)
        have HwZ := hZ9 (HbW.out.trans (HBz.out.mono (show w.heap.size ≤ w.heap.size + 2 by omega)))
        have HHo := hZ9 (pholdings_calls ve l ac Z (He.out.below HwZ.out) Hr.out Hl.out)
        have Hha := hZ9 ha
        have Ht0 := hZ9 ht0
        have Ht1 := hZ9 ht1
        go_wp2_with fail
        refine HHo.out.mono ?_
        rintro e Z1 ⟨ha1, hc1, H, rfl, hH1, hHad, hHrd, hHl, hbz1⟩
        dsimp only
        have HCy := hZ9 (pcyc_calls l ac (.slice ha1 H.length hc1) H (anchorL l ac) t Z1 hH1 hHrd Hha.out HA.out.a28 Ht0.out Ht1.out (HA.out.cin _ hHad) (HA.out.clen _ hHad HOn.out))
        have HHad := hZ9 hHad
        have HH1 := hZ9 hH1
        have HHrd := hZ9 hHrd
        have Hbz1 := hZ9 hbz1
        clear hHad hH1 hHrd hbz1 HHo
        go_wp2_with fail
        refine HCy.out.mono ?_
        rintro e Z2 ⟨O, hO, v2, rfl, hPO, hbz2⟩
        obtain ⟨ao, co, rfl, hao, hco, -⟩ := id hPO
        have hco2 := hco.1
        unfold maxLen at hco2
        clear hco
        dsimp only
        have HO := hZ9 hO
        have HFr := hZ9 (show AdFr (w.heap.size + 3) (w.heap.size + 2) (w.heap.size + 4) g (w.heap.size + 2) l ac (.slice ao O.length co) (.slice ha1 H.length hc1) O H #[.slice none 0 0, .slice qa WL.length qc, .slice qa2 CL.length qc2] qa qa2 qc qc2 WL CL (plB X) W Z2 from
         have hb12 := Hbz1.out.trans (hbz2.mono Hbz1.out.size)
         ⟨HSz.out.keep hb12, hPO, HH1.out.below hbz2, fun x hx => ⟨(HHrd.out x hx).1.below hbz2, (HHrd.out x hx).2⟩, (hb12.block _ (ltB9 HGz.out)).trans HGz.out, by omega, by omega, ownsRow_below HOz2.out hb12, ownsRow_below HOz3.out hb12, HBz.out.trans (hb12.mono (by have := HBz.out.size; have := Hs3.out; omega)), by have := Hs3.out; omega, by omega, by omega⟩)
        obtain ⟨h2a, h2c, e2, hH2, hH3, -⟩ := HH1.out
        cases e2
        have hH4 := hH3.1
        unfold maxLen at hH4
        clear hO hPO hbz2 HCy HSz HGz HOz2 HOz3 hH3
        go_wp2_with fail
        go_loopw [79] (fun i wr => ∃ kc : Nat, kc ≤ O.length ∧ i = .int .i64 kc ∧ AdFr (w.heap.size + 3) (w.heap.size + 2) (w.heap.size + 4) g (w.heap.size + 2) l ac (.slice ao O.length co) (.slice ha1 H.length hc1) O H #[.slice none 0 0, .slice qa WL.length qc, .slice qa2 CL.length qc2] qa qa2 qc qc2 WL CL (foldG (grantsB l P ac t (H.map (·.h)) (O.take kc)) (plB X)) W wr) (fun i _ => O.length - (intOf i).toNat)
        case atStart => exact ⟨0, Nat.zero_le _, rfl, HFr.out⟩
        case round =>
         obtain ⟨wo1, rfl⟩ : ∃ wo1 : World, wo1 = wr := ⟨_, rfl⟩
         obtain ⟨kc, hkc, rfl, hfr⟩ := hrel
         have HFo := hZ9 hfr
         have hkc0 : (0 : Int) ≤ (kc : Int) := Int.natCast_nonneg _
         by_cases hlc : kc < O.length
         · have hkc1 : (kc : Int) < (O.length : Int) := by omega
           obtain ⟨a3, c3, e3, -, -, hx⟩ := hfr.cyc
           cases e3
           obtain ⟨bb, o, rfl, hB, hx⟩ := hx (by rintro rfl; cases hlc)
           have x0 := (hx kc hlc).1
           have x1 := (hx kc hlc).2
           have HCe := hZ9 (preG_cycle (l := l) (P := P) (ac := ac) (t := t) (H := (H.map (·.h))) hlc)
           have HCut := hZ9 (fun (kh : Nat) (hh : kh < (H.map (·.h)).length) (B R : List (Bu × Int)) hB => preG_cut (l := l) (P := P) (ac := ac) (t := t) hlc hh (B := B) (R := R) hB)
           clear hx hfr
           generalize O[kc] = cy at *
           obtain ⟨Y, hY⟩ : ∃ Y, Y = wo1.alloc (Obj.cells #[.int .i64 cy.1, .int .i64 cy.2] 24) := ⟨_, rfl⟩
           have hbY : Below wo1.heap.size wo1 Y := by rw [hY]; exact (Below.refl _ _).alloc (Nat.le_refl _) _
           have YN := hZ9 (show Y.heap[wo1.heap.size]? = some (Obj.cells #[.int .i64 cy.1, .int .i64 cy.2] 24) by rw [hY]; exact heap_alloc_new _ _)
           have HFY := hZ9 (HFo.out.go hbY)
           have HY := hZ9 hY
           have Hn1 := hZ9 (show wo1.heap.size ≠ w.heap.size + 3 ∧ wo1.heap.size ≠ w.heap.size + 2 by have := HFo.out.bel.size; have := Hs3.out; omega)
           clear hY hbY
           go_upto_region 15 with (fail)
           rw [← HY.out]
           clear x0 x1
           go_wp2_with fail
           go_loopw [85] (fun i wr => ∃ kh : Nat, kh ≤ H.length ∧ i = .int .i64 kh ∧ AdFr (w.heap.size + 3) (w.heap.size + 2) (w.heap.size + 4) g (w.heap.size + 2) l ac (.slice (some ⟨bb, o, none⟩) O.length co) (.slice ha1 H.length hc1) O H #[.slice none 0 0, .slice qa WL.length qc, .slice qa2 CL.length qc2] qa qa2 qc qc2 WL CL (foldG (preG l P ac t (H.map (·.h)) O kc cy kh []) (plB X)) W wr ∧ wr.heap[wo1.heap.size]? = some (Obj.cells #[.int .i64 cy.1, .int .i64 cy.2] 24)) (fun i _ => H.length - (intOf i).toNat)
           case atStart => exact ⟨0, Nat.zero_le _, rfl, by rw [preG_start]; exact HFY.out, YN.out⟩
           case round =>
            obtain ⟨wo2, rfl⟩ : ∃ wo2 : World, wo2 = wr := ⟨_, rfl⟩
            obtain ⟨kh, hkh, rfl, hfr, hn1⟩ := hrel
            have HF2 := hZ9 hfr
            have HN1 := hZ9 hn1
            have hkh0 : (0 : Int) ≤ (kh : Int) := Int.natCast_nonneg _
            by_cases hlh : kh < H.length
            · have hkh1 : (kh : Int) < (H.length : Int) := by omega
              obtain ⟨a3, c3, e3, -, -, hx⟩ := hfr.hos
              cases e3
              obtain ⟨b2, o2, rfl, hB2, hx⟩ := hx (by rintro rfl; cases hlh)
              have hx := hx kh hlh
              have x0 : wo2.cell? ⟨b2, o2 + kh * 4, none⟩ = some (.int .i64 ac) := hx 0 (by decide)
              have x1 : wo2.cell? ⟨b2, o2 + kh * 4 + 1, none⟩ = some (.int .i64 (H[kh]).h.1) := hx 1 (by decide)
              have x2 : wo2.cell? ⟨b2, o2 + kh * 4 + 2, none⟩ = some (.string (H[kh]).h.2) := hx 2 (by decide)
              have x3 : wo2.cell? ⟨b2, o2 + kh * 4 + 3, none⟩ = some (.slice (H[kh]).pa (H[kh]).pn (H[kh]).pc) := hx 3 (by decide)
              have HRdh := hZ9 (hfr.hrd _ (List.getElem_mem hlh))
              have HHold := hZ9 (show preG l P ac t (H.map (·.h)) O kc cy kh (grantB P ac (H[kh]).h (actL (H[kh]).h.1 (H[kh]).h.2 l) cy) = preG l P ac t (H.map (·.h)) O kc cy (kh + 1) [] from by
               have h := preG_hold (l := l) (P := P) (ac := ac) (t := t) (H := (H.map (·.h))) (O := O) (kc := kc) (c := cy) (kh := kh) (by rw [List.length_map]; exact hlh)
               rw [List.getElem_map] at h
               exact h)
              have HCutH := hZ9 (fun (B R : List (Bu × Int)) (hB : grantB P ac (H[kh]).h (actL (H[kh]).h.1 (H[kh]).h.2 l) cy = B ++ R) => HCut.out kh (by rw [List.length_map]; exact hlh) B R (by rw [List.getElem_map]; exact hB))
              clear hx hfr hn1
              generalize H[kh] = hd at *
              obtain ⟨Y2, hY2⟩ : ∃ Y2, Y2 = wo2.alloc (Obj.cells #[.int .i64 ac, .int .i64 hd.h.1, .string hd.h.2, .slice hd.pa hd.pn hd.pc] 63) := ⟨_, rfl⟩
              have hbY2 : Below wo2.heap.size wo2 Y2 := by rw [hY2]; exact (Below.refl _ _).alloc (Nat.le_refl _) _
              have Y2N := hZ9 (show Y2.heap[wo2.heap.size]? = some (Obj.cells #[.int .i64 ac, .int .i64 hd.h.1, .string hd.h.2, .slice hd.pa hd.pn hd.pc] 63) by rw [hY2]; exact heap_alloc_new _ _)
              have HFY2 := hZ9 (HF2.out.go hbY2)
              have N1Y := hZ9 ((hbY2.block _ (ltB9 HN1.out)).trans HN1.out)
              have HGr := hZ9 (grant_calls ac hd.h.1 hd.h.2 hd.pa hd.pn hd.pc vp P (actL hd.h.1 hd.h.2 l) cy Y2 (HRdh.out.1.below hbY2) (Hp.out.below (HbW.out.trans (HFY2.out.bel.mono (by omega)))) Hf.out HRdh.out.2)
              have HY2 := hZ9 hY2
              clear hY2 hbY2
              go_upto_region 18 with (fail)
              rw [← HY2.out]
              clear x0 x1 x2 x3
              have tQ := fun j => cell_of_row Y2 _ j _ _ _ Y2N.out
              have s0 := tQ 0
              have s1 := tQ 1
              have s2 := tQ 2
              have s3 := tQ 3
              clear tQ
              have p0 := cell_of_row Y2 _ 0 _ _ _ N1Y.out
              have p1 := cell_of_row Y2 _ 1 _ _ _ N1Y.out
              go_wp2_with fail
              refine HGr.out.mono ?_
              rintro e Z3 ⟨ag, cg, XG, rfl, hown, hpl, hrdg, hb3⟩
              dsimp only
              have HF3 := hZ9 (HFY2.out.go hb3)
              have N13 := hZ9 ((hb3.block _ (ltB9 N1Y.out)).trans N1Y.out)
              have HOw := hZ9 hown
              have HPl := hZ9 hpl
              have HRg := hZ9 hrdg
              obtain ⟨ag2, cg2, e4, hXG1, hXG2⟩ := own_shape hown
              cases e4
              unfold maxLen at hXG2
              clear hown hpl hrdg hb3 HGr s0 s1 s2 s3 p0 p1
              go_wp2_with fail
              go_loopw [94] (fun i wr => ∃ kg : Nat, kg ≤ XG.length ∧ i = .int .i64 kg ∧ AdFr (w.heap.size + 3) (w.heap.size + 2) (w.heap.size + 4) g (w.heap.size + 2) l ac (.slice (some ⟨bb, o, none⟩) O.length co) (.slice (some ⟨b2, o2, none⟩) H.length hc1) O H #[.slice none 0 0, .slice qa WL.length qc, .slice qa2 CL.length qc2] qa qa2 qc qc2 WL CL (foldG (preG l P ac t (H.map (·.h)) O kc cy kh (plG (XG.take kg))) (plB X)) W wr ∧ wr.heap[wo1.heap.size]? = some (Obj.cells #[.int .i64 cy.1, .int .i64 cy.2] 24) ∧ wr.ownsRow Y2.heap.size 67 13 (.slice ag XG.length cg) XG.length (XG.flatMap grCells) ∧ ∀ x ∈ XG, BuRd wr x.1) (fun i _ => XG.length - (intOf i).toNat)
              case atStart => exact ⟨0, Nat.zero_le _, rfl, HF3.out, N13.out, HOw.out, HRg.out⟩
              case round =>
               obtain ⟨wo3, rfl⟩ : ∃ wo3 : World, wo3 = wr := ⟨_, rfl⟩
               obtain ⟨kg, hkg, rfl, hfr, hn1, hown, hrdg⟩ := hrel
               have HF4 := hZ9 hfr
               have HN4 := hZ9 hn1
               have HO4 := hZ9 hown
               have HR4 := hZ9 hrdg
               have hkg0 : (0 : Int) ≤ (kg : Int) := Int.natCast_nonneg _
               by_cases hlg : kg < XG.length
               · have hkg1 : (kg : Int) < (XG.length : Int) := by omega
                 obtain ⟨a3, c3, e3, -, -, hx⟩ := (RecAt.own (c := grCells) (sz := 13) (fun _ => rfl) hown : RecAt grCells 13 wo3 _ XG)
                 cases e3
                 obtain ⟨b3, o3, rfl, hB3, hx⟩ := hx (by rintro rfl; cases hlg)
                 have hx := hx kg hlg
                 have x0 : wo3.cell? ⟨b3, o3 + kg * 13, none⟩ = some (.int .i64 (XG[kg]).1.b.ac) := hx 0 (by decide)
                 have x1 : wo3.cell? ⟨b3, o3 + kg * 13 + 1, none⟩ = some (.int .i64 (XG[kg]).1.b.sb) := hx 1 (by decide)
                 have x2 : wo3.cell? ⟨b3, o3 + kg * 13 + 2, none⟩ = some (.string (XG[kg]).1.b.pr) := hx 2 (by decide)
                 have x3 : wo3.cell? ⟨b3, o3 + kg * 13 + 3, none⟩ = some (.int .i64 (XG[kg]).1.b.ix) := hx 3 (by decide)
                 have x4 : wo3.cell? ⟨b3, o3 + kg * 13 + 4, none⟩ = some (.int .i64 (XG[kg]).1.b.kd) := hx 4 (by decide)
                 have x5 : wo3.cell? ⟨b3, o3 + kg * 13 + 5, none⟩ = some (.slice (XG[kg]).1.za (XG[kg]).1.zn (XG[kg]).1.zc) := hx 5 (by decide)
                 have x6 : wo3.cell? ⟨b3, o3 + kg * 13 + 6, none⟩ = some (.int .i64 (XG[kg]).1.b.f) := hx 6 (by decide)
                 have x7 : wo3.cell? ⟨b3, o3 + kg * 13 + 7, none⟩ = some (.int .i64 (XG[kg]).1.b.t) := hx 7 (by decide)
                 have x8 : wo3.cell? ⟨b3, o3 + kg * 13 + 8, none⟩ = some (.int .i64 (XG[kg]).1.b.un) := hx 8 (by decide)
                 have x9 : wo3.cell? ⟨b3, o3 + kg * 13 + 9, none⟩ = some (.int .i64 (XG[kg]).1.b.lf) := hx 9 (by decide)
                 have x10 : wo3.cell? ⟨b3, o3 + kg * 13 + 10, none⟩ = some (.int .i64 (XG[kg]).1.b.pt) := hx 10 (by decide)
                 have x11 : wo3.cell? ⟨b3, o3 + kg * 13 + 11, none⟩ = some (.bool (XG[kg]).1.b.sh) := hx 11 (by decide)
                 have x12 : wo3.cell? ⟨b3, o3 + kg * 13 + 12, none⟩ = some (.int .i64 (XG[kg]).2) := hx 12 (by decide)
                 have HTk := hZ9 (plG_take XG kg hlg)
                 have HRx := hZ9 (hrdg _ (List.getElem_mem hlg))
                 have HCt := hZ9 (HCutH.out (plG (XG.take (kg + 1))) (plG (XG.drop (kg + 1))) (by rw [← HPl.out]; (conv => lhs; rw [← List.take_append_drop (kg + 1) XG]); unfold plG; rw [List.map_append]))
                 clear hx hfr hn1 hown hrdg
                 generalize XG[kg] = q at *
                 obtain ⟨y, rr⟩ := q
                 dsimp only at *
                 obtain ⟨Y3, hY3⟩ : ∃ Y3, Y3 = wo3.alloc (Obj.cells #[.int .i64 y.b.ac, .int .i64 y.b.sb, .string y.b.pr, .int .i64 y.b.ix, .int .i64 y.b.kd, .slice y.za y.zn y.zc, .int .i64 y.b.f, .int .i64 y.b.t, .int .i64 y.b.un, .int .i64 y.b.lf, .int .i64 y.b.pt, .bool y.b.sh, .int .i64 rr] 67) := ⟨_, rfl⟩
                 have hbY3 : Below wo3.heap.size wo3 Y3 := by rw [hY3]; exact (Below.refl _ _).alloc (Nat.le_refl _) _
                 have Y3N := hZ9 (show Y3.heap[wo3.heap.size]? = some (Obj.cells #[.int .i64 y.b.ac, .int .i64 y.b.sb, .string y.b.pr, .int .i64 y.b.ix, .int .i64 y.b.kd, .slice y.za y.zn y.zc, .int .i64 y.b.f, .int .i64 y.b.t, .int .i64 y.b.un, .int .i64 y.b.lf, .int .i64 y.b.pt, .bool y.b.sh, .int .i64 rr] 67) by rw [hY3]; exact heap_alloc_new _ _)
                 have HFY3 := hZ9 (HF4.out.go hbY3)
                 have N14 := hZ9 ((hbY3.block _ (ltB9 HN4.out)).trans HN4.out)
                 have HO5 := hZ9 (ownsRow_below HO4.out hbY3)
                 have HR5 := hZ9 (show ∀ x ∈ XG, BuRd Y3 x.1 from fun x hx => (HR4.out x hx).below hbY3)
                 have HRx3 := hZ9 (HRx.out.below hbY3)
                 have HY3 := hZ9 hY3
                 clear hY3 hbY3
                 go_upto_region 21 with (fail)
                 rw [← HY3.out]
                 clear x0 x1 x2 x3 x4 x5 x6 x7 x8 x9 x10 x11 x12
                 have tQ := fun j => cell_of_row Y3 _ j _ _ _ Y3N.out
                 have y0 := tQ 0
                 have y1 := tQ 1
                 have y2 := tQ 2
                 have y3 := tQ 3
                 have y4 := tQ 4
                 have y5 := tQ 5
                 have y6 := tQ 6
                 have y7 := tQ 7
                 have y8 := tQ 8
                 have y9 := tQ 9
                 have y10 := tQ 10
                 have y11 := tQ 11
                 have y12 := tQ 12
                 clear tQ
                 by_cases hf : y.b.f ≤ t
                 · have HIn := hZ9 (show preG l P ac t (H.map (·.h)) O kc cy kh (plG (XG.take (kg + 1))) = preG l P ac t (H.map (·.h)) O kc cy kh (plG (XG.take kg)) ++ [(y.b, rr)] by rw [HTk.out]; exact preG_in (decide_eq_true hf))
                   have HKy := hZ9 (show KeyB y.b from by
                    obtain ⟨T, hT⟩ := HCt.out
                    exact HA.out.key _ O HHad.out HO.out (y.b, rr) (by rw [hT, HIn.out]; simp))
                   have HLn := hZ9 (show (foldG (preG l P ac t (H.map (·.h)) O kc cy kh (plG (XG.take kg))) (plB X)).length ≤ 900000 from by
                    obtain ⟨T, hT⟩ := HCt.out
                    have h1 := HA.out.few _ O HHad.out HO.out HOn.out
                    rw [hT, HIn.out] at h1
                    simp only [List.length_append] at h1
                    have h2 := foldG_le (preG l P ac t (H.map (·.h)) O kc cy kh (plG (XG.take kg))) (plB X)
                    rw [plB_len] at h2
                    have h3 := HXl.out
                    omega)
                   have HAdd := hZ9 (sadd_calls (w.heap.size + 3) (w.heap.size + 2) (w.heap.size + 4) _ y rr Y3 HFY3.out.st (by have := HFY3.out.bel.size; have := Hs3.out; omega) HRx3.out HKy.out HLn.out)
                   go_wp2_with fail
                   refine HAdd.out.mono ?_
                   clear hf
                   rintro e Z4 ⟨rfl, hst4, hk4⟩
                   dsimp only
                   have hnc := HFY3.out.st.noCells
                   have HF6 := hZ9 (HFY3.out.two hst4 hk4)
                   have N16 := hZ9 ((hk4.block _ (ltB9 N14.out) Hn1.out.1 Hn1.out.2).trans N14.out)
                   have HO6 := hZ9 (own_two HO5.out HFY3.out.st (by decide) hk4)
                   have HR6 := hZ9 (show ∀ x ∈ XG, BuRd Z4 x.1 from fun x hx => buRd_two (HR5.out x hx) hnc hk4)
                   clear hst4 hk4 hnc y0 y1 y2 y3 y4 y5 y6 y7 y8 y9 y10 y11 y12
                   go_wp2
                   exact ⟨⟨kg + 1, hlg, by go_num, by rw [HIn.out, foldG_snoc]; exact HF6.out, N16.out, HO6.out, HR6.out⟩, by simp [intOf]; omega⟩
                 have HIn := hZ9 (show preG l P ac t (H.map (·.h)) O kc cy kh (plG (XG.take (kg + 1))) = preG l P ac t (H.map (·.h)) O kc cy kh (plG (XG.take kg)) by rw [HTk.out]; exact preG_out (decide_eq_false hf))
                 go_wp2
                 exact ⟨⟨kg + 1, hlg, by go_num, by rw [HIn.out]; exact HFY3.out, N14.out, HO5.out, HR5.out⟩, by simp [intOf]; omega⟩
               have HEg := hZ9 (show AdFr (w.heap.size + 3) (w.heap.size + 2) (w.heap.size + 4) g (w.heap.size + 2) l ac (.slice (some ⟨bb, o, none⟩) O.length co) (.slice (some ⟨b2, o2, none⟩) H.length hc1) O H #[.slice none 0 0, .slice qa WL.length qc, .slice qa2 CL.length qc2] qa qa2 qc qc2 WL CL (foldG (preG l P ac t (H.map (·.h)) O kc cy (kh + 1) []) (plB X)) W wo3 by
                rw [List.take_of_length_le (show XG.length ≤ kg by omega), HPl.out, HHold.out] at hfr
                exact hfr)
               clear hfr hown hrdg hn1 HF4
               go_wp2
               exact ⟨⟨kh + 1, hlh, by go_num, HEg.out, HN4.out⟩, by simp [intOf]; omega⟩
            have HEh := hZ9 (show AdFr (w.heap.size + 3) (w.heap.size + 2) (w.heap.size + 4) g (w.heap.size + 2) l ac (.slice (some ⟨bb, o, none⟩) O.length co) (.slice ha1 H.length hc1) O H #[.slice none 0 0, .slice qa WL.length qc, .slice qa2 CL.length qc2] qa qa2 qc qc2 WL CL (foldG (grantsB l P ac t (H.map (·.h)) (O.take (kc + 1))) (plB X)) W wo2 by
             rw [show kh = ((H.map (·.h))).length by rw [List.length_map]; omega, HCe.out] at hfr
             exact hfr)
            clear hfr hn1 HF2
            go_wp2
            exact ⟨⟨kc + 1, hlc, by go_num, HEh.out⟩, by simp [intOf]; omega⟩
         have HEnd := hZ9 (show AdFr (w.heap.size + 3) (w.heap.size + 2) (w.heap.size + 4) g (w.heap.size + 2) l ac (.slice ao O.length co) (.slice ha1 H.length hc1) O H #[.slice none 0 0, .slice qa WL.length qc, .slice qa2 CL.length qc2] qa qa2 qc qc2 WL CL (foldG (grantsB l P ac t (H.map (·.h)) O) (plB X)) W wo1 by rw [List.take_of_length_le (by omega)] at hfr; exact hfr)
         clear hfr HFo hkc
         have FSt := hZ9 HEnd.out.st
         have FG := hZ9 HEnd.out.box
         have FW := hZ9 HEnd.out.wal
         have FC := hZ9 HEnd.out.cnt
         have FB := hZ9 HEnd.out.bel
         clear HEnd
         go_upto_region 26 with (fail)
         obtain ⟨lr, lcr, R, s1, s2, s3, s4⟩ := FSt.out.row
         have sc0 := cell_of_row wo1 _ 0 _ _ _ s1
         have gc0 := cell_of_row wo1 _ 0 _ _ _ FG.out
         have gf0 := frozen_of_row wo1 _ 0 _ _ FG.out
         obtain ⟨U, hU⟩ : ∃ U, U = wo1.setCell ⟨g, 0, none⟩ (.slice lr R.length lcr) := ⟨_, rfl⟩
         have UG := hZ9 (show U.heap[g]? = some (Obj.cells #[.slice lr R.length lcr, .slice qa WL.length qc, .slice qa2 CL.length qc2] 37) by rw [hU]; exact row_set _ FG.out)
         have hg1 : w.heap.size + 1 ≠ g := by omega
         have U1 := hZ9 (show U.heap[w.heap.size + 1]? = some (Obj.cells #[.slice none 0 0, .slice none 0 0, .slice none 0 0] 37) by rw [hU]; exact row_other ((FB.out.block _ (by omega)).trans R1.out) hg1)
         have HbU := hZ9 (show Below (w.heap.size + 2) W U by rw [hU]; exact FB.out.trans ⟨rfl, rfl, rfl, by simp, fun k hk => Below.heap_setCell _ _ _ _ (by show k ≠ g; omega)⟩)
         have HFin := hZ9 (show StTo (foldG (grantsB l P ac t (H.map (·.h)) O) (plB X)) WL CL w (.returned (.agg #[.slice lr R.length lcr, .slice qa WL.length qc, .slice qa2 CL.length qc2])) (U.setRow (w.heap.size + 1) #[.slice lr R.length lcr, .slice qa WL.length qc, .slice qa2 CL.length qc2]) from by
          have o1 : U.ownsRow (w.heap.size + 4) 26 12 (.slice lr R.length lcr) R.length (R.flatMap buCells) := by rw [hU]; exact own_setCell1 s2 (own_other s2 FG.out (by decide))
          have o2 : U.ownsRow (w.heap.size + 4) 165 5 (.slice qa WL.length qc) WL.length (WL.flatMap i5Cells) := by rw [hU]; exact own_setCell1 FW.out (own_other FW.out FG.out (by decide))
          have o3 : U.ownsRow (w.heap.size + 4) 167 5 (.slice qa2 CL.length qc2) CL.length (CL.flatMap i5Cells) := by rw [hU]; exact own_setCell1 FC.out (own_other FC.out FG.out (by decide))
          refine ⟨lr, lcr, R, qa, qc, qa2, qc2, rfl, own_down (own_setRow1 o1 (own_other o1 U1.out (by decide)) _) (by omega), s3, fun x hx => ?_, own_down (own_setRow1 o2 (own_other o2 U1.out (by decide)) _) (by omega), own_down (own_setRow1 o3 (own_other o3 U1.out (by decide)) _) (by omega), below_setRow1 (HbW.out.trans (HbU.out.mono (by omega))) (by omega) _⟩
          have h1 := s4 x hx
          have r1 : U.ownsRow (w.heap.size + 4) 9 1 (.slice x.za x.zn x.zc) x.b.zs.length (x.b.zs.flatMap strCells) := by rw [hU]; exact own_setCell1 h1.row (own_other h1.row FG.out (by decide))
          exact ⟨own_down (own_setRow1 r1 (own_other r1 U1.out (by decide)) _) (by omega), h1.sizes, h1.p, h1.len⟩)
         have HU := hZ9 hU
         clear hU s1 s2 s3 s4
         go_upto_region 27 with (fail)
         rw [← HU.out]
         clear sc0 gc0 gf0
         have y0 := cell_of_row U _ 0 _ _ _ UG.out
         have y1 := cell_of_row U _ 1 _ _ _ UG.out
         have y2 := cell_of_row U _ 2 _ _ _ UG.out
         have tQ := fun j => cell_setRow_same U (w.heap.size + 1) j _ #[.slice lr R.length lcr, .slice qa WL.length qc, .slice qa2 CL.length qc2] _ _ U1.out
         have t0 := tQ 0
         have t1 := tQ 1
         have t2 := tQ 2
         clear tQ
         repeat (first | refine wpList_store_row rfl _ _ _ rfl (w.heap.size + 1) #[.slice lr R.length lcr, .slice qa WL.length qc, .slice qa2 CL.length qc2] rfl rfl 37 _ U1.out (by kernel_rfl) rfl (by simp [Value.oneCell']) ?_ | go_step)
         refine bodyPost_ret (v := .agg #[.slice lr R.length lcr, .slice qa WL.length qc, .slice qa2 CL.length qc2]) (by simp [results, Try.results9, go_sem, t0, t1, t2]) rfl ?_
         exact Or.inr ⟨HOn.out, (H.map (·.h)), O, HHad.out, HO.out, HFin.out⟩
      have HOff := hZ9 (show ¬ advOn l ac t from fun h => ha h.2.2)
      go_upto_region 26 with (fail)
      obtain ⟨lr, lcr, R, s1, s2, s3, s4⟩ := HSz.out.row
      have sc0 := cell_of_row Z _ 0 _ _ _ s1
      have gc0 := cell_of_row Z _ 0 _ _ _ HGz.out
      have gf0 := frozen_of_row Z _ 0 _ _ HGz.out
      obtain ⟨U, hU⟩ : ∃ U, U = Z.setCell ⟨g, 0, none⟩ (.slice lr R.length lcr) := ⟨_, rfl⟩
      have UG := hZ9 (show U.heap[g]? = some (Obj.cells #[.slice lr R.length lcr, .slice qa WL.length qc, .slice qa2 CL.length qc2] 37) by rw [hU]; exact row_set _ HGz.out)
      have hg1 : w.heap.size + 1 ≠ g := by omega
      have U1 := hZ9 (show U.heap[w.heap.size + 1]? = some (Obj.cells #[.slice none 0 0, .slice none 0 0, .slice none 0 0] 37) by rw [hU]; exact row_other ((HBz.out.block _ (by omega)).trans R1.out) hg1)
      have HbU := hZ9 (show Below (w.heap.size + 2) W U by rw [hU]; exact HBz.out.trans ⟨rfl, rfl, rfl, by simp, fun k hk => Below.heap_setCell _ _ _ _ (by show k ≠ g; omega)⟩)
      have HFin := hZ9 (show StTo (plB X) WL CL w (.returned (.agg #[.slice lr R.length lcr, .slice qa WL.length qc, .slice qa2 CL.length qc2])) (U.setRow (w.heap.size + 1) #[.slice lr R.length lcr, .slice qa WL.length qc, .slice qa2 CL.length qc2]) from by
       have o1 : U.ownsRow (w.heap.size + 4) 26 12 (.slice lr R.length lcr) R.length (R.flatMap buCells) := by rw [hU]; exact own_setCell1 s2 (own_other s2 HGz.out (by decide))
       have o2 : U.ownsRow (w.heap.size + 4) 165 5 (.slice qa WL.length qc) WL.length (WL.flatMap i5Cells) := by rw [hU]; exact own_setCell1 HOz2.out (own_other HOz2.out HGz.out (by decide))
       have o3 : U.ownsRow (w.heap.size + 4) 167 5 (.slice qa2 CL.length qc2) CL.length (CL.flatMap i5Cells) := by rw [hU]; exact own_setCell1 HOz3.out (own_other HOz3.out HGz.out (by decide))
       refine ⟨lr, lcr, R, qa, qc, qa2, qc2, rfl, own_down (own_setRow1 o1 (own_other o1 U1.out (by decide)) _) (by omega), s3, fun x hx => ?_, own_down (own_setRow1 o2 (own_other o2 U1.out (by decide)) _) (by omega), own_down (own_setRow1 o3 (own_other o3 U1.out (by decide)) _) (by omega), below_setRow1 (HbW.out.trans (HbU.out.mono (by omega))) (by omega) _⟩
       have h1 := s4 x hx
       have r1 : U.ownsRow (w.heap.size + 4) 9 1 (.slice x.za x.zn x.zc) x.b.zs.length (x.b.zs.flatMap strCells) := by rw [hU]; exact own_setCell1 h1.row (own_other h1.row HGz.out (by decide))
       exact ⟨own_down (own_setRow1 r1 (own_other r1 U1.out (by decide)) _) (by omega), h1.sizes, h1.p, h1.len⟩)
      have HU := hZ9 hU
      clear hU s1 s2 s3 s4
      go_upto_region 27 with (fail)
      rw [← HU.out]
      clear sc0 gc0 gf0
      have y0 := cell_of_row U _ 0 _ _ _ UG.out
      have y1 := cell_of_row U _ 1 _ _ _ UG.out
      have y2 := cell_of_row U _ 2 _ _ _ UG.out
      have tQ := fun j => cell_setRow_same U (w.heap.size + 1) j _ #[.slice lr R.length lcr, .slice qa WL.length qc, .slice qa2 CL.length qc2] _ _ U1.out
      have t0 := tQ 0
      have t1 := tQ 1
      have t2 := tQ 2
      clear tQ
      repeat (first | refine wpList_store_row rfl _ _ _ rfl (w.heap.size + 1) #[.slice lr R.length lcr, .slice qa WL.length qc, .slice qa2 CL.length qc2] rfl rfl 37 _ U1.out (by kernel_rfl) rfl (by simp [Value.oneCell']) ?_ | go_step)
      refine bodyPost_ret (v := .agg #[.slice lr R.length lcr, .slice qa WL.length qc, .slice qa2 CL.length qc2]) (by simp [results, Try.results9, go_sem, t0, t1, t2]) rfl ?_
      exact Or.inl ⟨HOff.out, HFin.out⟩
    have HOff := hZ9 (show ¬ advOn l ac t from fun h => ht1 h.2.1)
    go_upto_region 26 with (fail)
    obtain ⟨lr, lcr, R, s1, s2, s3, s4⟩ := HSz.out.row
    have sc0 := cell_of_row Z _ 0 _ _ _ s1
    have gc0 := cell_of_row Z _ 0 _ _ _ HGz.out
    have gf0 := frozen_of_row Z _ 0 _ _ HGz.out
    obtain ⟨U, hU⟩ : ∃ U, U = Z.setCell ⟨g, 0, none⟩ (.slice lr R.length lcr) := ⟨_, rfl⟩
    have UG := hZ9 (show U.heap[g]? = some (Obj.cells #[.slice lr R.length lcr, .slice qa WL.length qc, .slice qa2 CL.length qc2] 37) by rw [hU]; exact row_set _ HGz.out)
    have hg1 : w.heap.size + 1 ≠ g := by omega
    have U1 := hZ9 (show U.heap[w.heap.size + 1]? = some (Obj.cells #[.slice none 0 0, .slice none 0 0, .slice none 0 0] 37) by rw [hU]; exact row_other ((HBz.out.block _ (by omega)).trans R1.out) hg1)
    have HbU := hZ9 (show Below (w.heap.size + 2) W U by rw [hU]; exact HBz.out.trans ⟨rfl, rfl, rfl, by simp, fun k hk => Below.heap_setCell _ _ _ _ (by show k ≠ g; omega)⟩)
    have HFin := hZ9 (show StTo (plB X) WL CL w (.returned (.agg #[.slice lr R.length lcr, .slice qa WL.length qc, .slice qa2 CL.length qc2])) (U.setRow (w.heap.size + 1) #[.slice lr R.length lcr, .slice qa WL.length qc, .slice qa2 CL.length qc2]) from by
     have o1 : U.ownsRow (w.heap.size + 4) 26 12 (.slice lr R.length lcr) R.length (R.flatMap buCells) := by rw [hU]; exact own_setCell1 s2 (own_other s2 HGz.out (by decide))
     have o2 : U.ownsRow (w.heap.size + 4) 165 5 (.slice qa WL.length qc) WL.length (WL.flatMap i5Cells) := by rw [hU]; exact own_setCell1 HOz2.out (own_other HOz2.out HGz.out (by decide))
     have o3 : U.ownsRow (w.heap.size + 4) 167 5 (.slice qa2 CL.length qc2) CL.length (CL.flatMap i5Cells) := by rw [hU]; exact own_setCell1 HOz3.out (own_other HOz3.out HGz.out (by decide))
     refine ⟨lr, lcr, R, qa, qc, qa2, qc2, rfl, own_down (own_setRow1 o1 (own_other o1 U1.out (by decide)) _) (by omega), s3, fun x hx => ?_, own_down (own_setRow1 o2 (own_other o2 U1.out (by decide)) _) (by omega), own_down (own_setRow1 o3 (own_other o3 U1.out (by decide)) _) (by omega), below_setRow1 (HbW.out.trans (HbU.out.mono (by omega))) (by omega) _⟩
     have h1 := s4 x hx
     have r1 : U.ownsRow (w.heap.size + 4) 9 1 (.slice x.za x.zn x.zc) x.b.zs.length (x.b.zs.flatMap strCells) := by rw [hU]; exact own_setCell1 h1.row (own_other h1.row HGz.out (by decide))
     exact ⟨own_down (own_setRow1 r1 (own_other r1 U1.out (by decide)) _) (by omega), h1.sizes, h1.p, h1.len⟩)
    have HU := hZ9 hU
    clear hU s1 s2 s3 s4
    go_upto_region 27 with (fail)
    rw [← HU.out]
    clear sc0 gc0 gf0
    have y0 := cell_of_row U _ 0 _ _ _ UG.out
    have y1 := cell_of_row U _ 1 _ _ _ UG.out
    have y2 := cell_of_row U _ 2 _ _ _ UG.out
    have tQ := fun j => cell_setRow_same U (w.heap.size + 1) j _ #[.slice lr R.length lcr, .slice qa WL.length qc, .slice qa2 CL.length qc2] _ _ U1.out
    have t0 := tQ 0
    have t1 := tQ 1
    have t2 := tQ 2
    clear tQ
    repeat (first | refine wpList_store_row rfl _ _ _ rfl (w.heap.size + 1) #[.slice lr R.length lcr, .slice qa WL.length qc, .slice qa2 CL.length qc2] rfl rfl 37 _ U1.out (by kernel_rfl) rfl (by simp [Value.oneCell']) ?_ | go_step)
    refine bodyPost_ret (v := .agg #[.slice lr R.length lcr, .slice qa WL.length qc, .slice qa2 CL.length qc2]) (by simp [results, Try.results9, go_sem, t0, t1, t2]) rfl ?_
    exact Or.inl ⟨HOff.out, HFin.out⟩
  have HOff := hZ9 (show ¬ advOn l ac t from fun h => ht0 h.1)
  go_upto_region 26 with (fail)
  obtain ⟨lr, lcr, R, s1, s2, s3, s4⟩ := HSz.out.row
  have sc0 := cell_of_row Z _ 0 _ _ _ s1
  have gc0 := cell_of_row Z _ 0 _ _ _ HGz.out
  have gf0 := frozen_of_row Z _ 0 _ _ HGz.out
  obtain ⟨U, hU⟩ : ∃ U, U = Z.setCell ⟨g, 0, none⟩ (.slice lr R.length lcr) := ⟨_, rfl⟩
  have UG := hZ9 (show U.heap[g]? = some (Obj.cells #[.slice lr R.length lcr, .slice qa WL.length qc, .slice qa2 CL.length qc2] 37) by rw [hU]; exact row_set _ HGz.out)
  have hg1 : w.heap.size + 1 ≠ g := by omega
  have U1 := hZ9 (show U.heap[w.heap.size + 1]? = some (Obj.cells #[.slice none 0 0, .slice none 0 0, .slice none 0 0] 37) by rw [hU]; exact row_other ((HBz.out.block _ (by omega)).trans R1.out) hg1)
  have HbU := hZ9 (show Below (w.heap.size + 2) W U by rw [hU]; exact HBz.out.trans ⟨rfl, rfl, rfl, by simp, fun k hk => Below.heap_setCell _ _ _ _ (by show k ≠ g; omega)⟩)
  have HFin := hZ9 (show StTo (plB X) WL CL w (.returned (.agg #[.slice lr R.length lcr, .slice qa WL.length qc, .slice qa2 CL.length qc2])) (U.setRow (w.heap.size + 1) #[.slice lr R.length lcr, .slice qa WL.length qc, .slice qa2 CL.length qc2]) from by
   have o1 : U.ownsRow (w.heap.size + 4) 26 12 (.slice lr R.length lcr) R.length (R.flatMap buCells) := by rw [hU]; exact own_setCell1 s2 (own_other s2 HGz.out (by decide))
   have o2 : U.ownsRow (w.heap.size + 4) 165 5 (.slice qa WL.length qc) WL.length (WL.flatMap i5Cells) := by rw [hU]; exact own_setCell1 HOz2.out (own_other HOz2.out HGz.out (by decide))
   have o3 : U.ownsRow (w.heap.size + 4) 167 5 (.slice qa2 CL.length qc2) CL.length (CL.flatMap i5Cells) := by rw [hU]; exact own_setCell1 HOz3.out (own_other HOz3.out HGz.out (by decide))
   refine ⟨lr, lcr, R, qa, qc, qa2, qc2, rfl, own_down (own_setRow1 o1 (own_other o1 U1.out (by decide)) _) (by omega), s3, fun x hx => ?_, own_down (own_setRow1 o2 (own_other o2 U1.out (by decide)) _) (by omega), own_down (own_setRow1 o3 (own_other o3 U1.out (by decide)) _) (by omega), below_setRow1 (HbW.out.trans (HbU.out.mono (by omega))) (by omega) _⟩
   have h1 := s4 x hx
   have r1 : U.ownsRow (w.heap.size + 4) 9 1 (.slice x.za x.zn x.zc) x.b.zs.length (x.b.zs.flatMap strCells) := by rw [hU]; exact own_setCell1 h1.row (own_other h1.row HGz.out (by decide))
   exact ⟨own_down (own_setRow1 r1 (own_other r1 U1.out (by decide)) _) (by omega), h1.sizes, h1.p, h1.len⟩)
  have HU := hZ9 hU
  clear hU s1 s2 s3 s4
  go_upto_region 27 with (fail)
  rw [← HU.out]
  clear sc0 gc0 gf0
  have y0 := cell_of_row U _ 0 _ _ _ UG.out
  have y1 := cell_of_row U _ 1 _ _ _ UG.out
  have y2 := cell_of_row U _ 2 _ _ _ UG.out
  have tQ := fun j => cell_setRow_same U (w.heap.size + 1) j _ #[.slice lr R.length lcr, .slice qa WL.length qc, .slice qa2 CL.length qc2] _ _ U1.out
  have t0 := tQ 0
  have t1 := tQ 1
  have t2 := tQ 2
  clear tQ
  repeat (first | refine wpList_store_row rfl _ _ _ rfl (w.heap.size + 1) #[.slice lr R.length lcr, .slice qa WL.length qc, .slice qa2 CL.length qc2] rfl rfl 37 _ U1.out (by kernel_rfl) rfl (by simp [Value.oneCell']) ?_ | go_step)
  refine bodyPost_ret (v := .agg #[.slice lr R.length lcr, .slice qa WL.length qc, .slice qa2 CL.length qc2]) (by simp [results, Try.results9, go_sem, t0, t1, t2]) rfl ?_
  exact Or.inl ⟨HOff.out, HFin.out⟩
end Go.Proofs.Ytngippiilgdnoaa
namespace Go.Proofs.Ytngippiilgdnoaa
open Go.RowKit
open Go.RowKit
open Go.RowKit
end Go.Proofs.Ytngippiilgdnoaa
namespace Go.Proofs.Ytngippiilgdnoaa
open Go.RowKit
theorem grantB_len4 {P : List Pd} (hf : ∀ p ∈ P, p.bs.length ≤ 4) (ac : Int) (h : Had) (A : List (Int × Int)) (c : Int × Int) : (grantB P ac h A c).length ≤ 4 := by
 unfold grantB
 split
 · exact Nat.zero_le _
 rw [grantsL_len]
 rename_i q _
 cases ha : atL P h.2 q.1 with
 | none => exact Nat.zero_le _
 | some x =>
  have hx : x ∈ P := by
   unfold atL at ha
   exact (List.mem_filter.1 (List.mem_of_getLast? ha)).1
  exact hf x hx
theorem had_len {l : List Ev} {ac : Int} {H : List Had} (h : HadOk l ac H) : H.length ≤ l.length := by
 have h1 : H.Nodup := h.srt.imp (fun {a b} hab e => by subst e; exact hadLt_irr _ hab)
 have h2 := nodup_sub_len H (l.map fun e => (e.sb, e.nm)) h1 (fun x hx => by
  obtain ⟨e, he, -, -, rfl⟩ := (h.mem x).1 hx
  exact List.mem_map.2 ⟨e, he, rfl⟩)
 rwa [List.length_map] at h2
theorem cycs_walk {a : Int} (ha : 1 ≤ a) (hb : a ≤ 28) {A : List (Int × Int)} (hA : ∀ p ∈ A, 0 ≤ p.1 ∧ p.1 < p.2 ∧ p.2 ≤ 12622780800) {t : Int} (h0 : 0 ≤ t) (h1 : t < 12622780800) {O : List (Int × Int)} (h : CycsOk a A t O) : O.length ≤ (A.flatMap (walkC a t)).length := by
 have hs := nodup_sub_len _ ((A.flatMap (walkC a t)).map (·.1)) (asc_nodup h.srt) fun y hy => by
  obtain ⟨c, hc, rfl⟩ := List.mem_map.1 hy
  obtain ⟨m, m1, m2, e, x, ⟨p, hp, x1, x2⟩, y1, y2, x3, x4⟩ := (h.mem c).1 hc
  obtain ⟨w0, w1, w2⟩ := hA p hp
  refine List.mem_map.2 ⟨c, List.mem_flatMap.2 ⟨p, hp, ?_⟩, rfl⟩
  unfold walkC
  rw [if_pos ((meetB_iff _ _ _ _).2 ⟨(validB_iff _ _).2 ⟨w0, w1, w2⟩, (validB_iff _ _).2 ⟨by decide, by omega, by omega⟩, by omega⟩)]
  exact (cycOf_mem ha hb (p := (max p.1 0, min p.2 (t + 1))) (by dsimp only; omega) (by dsimp only; omega) (by dsimp only; omega)).2 ⟨m, m1, m2, e, x, by dsimp only; omega, by dsimp only; omega, x3, x4⟩
 rwa [List.length_map, List.length_map] at hs
theorem grants_len {l : List Ev} {P : List Pd} {ac t : Int} {H : List Had} {O : List (Int × Int)} (hf : ∀ p ∈ P, p.bs.length ≤ 4) (hl : l.length ≤ 40) (h : HadOk l ac H) (ho : O.length ≤ 1600) : (grantsB l P ac t H O).length ≤ 300000 := by
 have h1 := had_len h
 have h3 : ∀ c ∈ O, (grantsAt l P ac t H c).length ≤ 160 := fun c _ => by
  have h4 := flat_bound (fun h => (grantB P ac h (actL h.1 h.2 l) c).filter fun g => decide (g.1.f ≤ t)) 4 H (fun x _ => Nat.le_trans (List.length_filter_le _ _) (grantB_len4 hf _ _ _ _))
  show (H.flatMap _).length ≤ 160
  omega
 have h5 := flat_bound (grantsAt l P ac t H) 160 O h3
 show (O.flatMap _).length ≤ _
 omega
theorem grants_mem {l : List Ev} {P : List Pd} {ac t : Int} {H : List Had} {O : List (Int × Int)} {g : Bu × Int} (hg : g ∈ grantsB l P ac t H O) : g.1.f ≤ t ∧ ∃ h ∈ H, ∃ c ∈ O, g ∈ grantB P ac h (actL h.1 h.2 l) c := by
 unfold grantsB at hg
 obtain ⟨c, hc, hg⟩ := List.mem_flatMap.1 hg
 unfold grantsAt at hg
 obtain ⟨h, hh, hg⟩ := List.mem_flatMap.1 hg
 obtain ⟨h1, h2⟩ := List.mem_filter.1 hg
 exact ⟨of_decide_eq_true h2, h, hh, c, hc, h1⟩
theorem grantB_mem {P : List Pd} {ac : Int} {h : Had} {A : List (Int × Int)} {c : Int × Int} {g : Bu × Int} (hg : g ∈ grantB P ac h A c) : ∃ p ∈ A, ∃ (i : Nat) (x : Pd) (b : Bd), x ∈ P ∧ x.bs[i]? = some b ∧ meetB p.1 p.2 c.1 c.2 = true ∧ atL P h.2 (max p.1 c.1) = some x ∧ g = (buOf ac h (max p.1 c.1, min p.2 c.2) i b, b.ro) := by
 unfold grantB at hg
 cases hq : firstP A c with
 | none => rw [hq] at hg; cases hg
 | some q =>
  rw [hq] at hg
  simp only [] at hg
  unfold firstP at hq
  cases hp : A.find? (fun p => meetB p.1 p.2 c.1 c.2) with
  | none => rw [hp] at hq; cases hq
  | some p =>
   rw [hp] at hq
   simp only [Option.some.injEq] at hq
   subst hq
   unfold grantsL at hg
   obtain ⟨i, hi, he⟩ := List.mem_mapIdx.1 hg
   cases ha : atL P h.2 (max p.1 c.1) with
   | none => simp [ha, bsOf] at hi
   | some x =>
    have hx : x ∈ P := by
     unfold atL at ha
     exact (List.mem_filter.1 (List.mem_of_getLast? ha)).1
    refine ⟨p, List.mem_of_find?_eq_some hp, i, x, x.bs[i]'(by simpa [ha, bsOf] using hi), hx, List.getElem?_eq_getElem _, List.find?_some (p := fun p : Int × Int => meetB p.1 p.2 c.1 c.2) hp, ha, ?_⟩
    rw [← he]
    simp [ha, bsOf]
theorem advH_of {l : List Ev} {P : List Pd} {ac t : Int} (hr : OkRun l) (hl : l.length ≤ 40) (hn : NearT l t) (hs : ∀ e ∈ l, e.nm.size ≤ maxLen) (hf : ∀ p ∈ P, p.bs.length ≤ 4) (ha : anchorL l ac ≤ 28) (ht : t ≤ 9223372036854775807) : AdvH l P ac t := by
 refine ⟨ha, fun H _ => heldA_in hr, fun H hH hOn => walk_total hr hl hn hOn.2.1 hH.srt, fun H O hH hO g hg => ?_, fun H O hH hO hOn => grants_len hf hl hH (Nat.le_trans (cycs_walk (by have := hOn.2.2; omega) ha (heldA_in hr) hOn.1 hOn.2.1 hO) (walk_total hr hl hn hOn.2.1 hH.srt))⟩
 obtain ⟨hft, h, hh, c, hc, hg⟩ := grants_mem hg
 obtain ⟨p, hp, i, x, b, hx, hi, -, -, rfl⟩ := grantB_mem hg
 obtain ⟨e, he, hk, -, rfl⟩ := (hH.mem h).1 hh
 have h0 := (heldA_in hr (H := H) p (List.mem_flatMap.2 ⟨_, hh, hp⟩)).1
 obtain ⟨k, hkl, rfl⟩ := List.mem_iff_getElem.1 he
 have hsb : -9223372036854775808 ≤ (l[k]).sb ∧ (l[k]).sb ≤ 9223372036854775807 := by
  have h := hr k hkl
  cases hu : usesS (l[k]).kd with
  | true => have := h.s1 hu; omega
  | false => have := h.s0 hu; omega
 have hib : i < 4 := by
  have h1 := (List.getElem?_eq_some_iff.1 hi).1
  have h2 := hf x hx
  omega
 have hft : max p.1 c.1 ≤ t := hft
 exact ⟨wf64 hsb.1 hsb.2, hs _ (List.getElem_mem hkl), wf64 (show (-9223372036854775808 : Int) ≤ (i : Int) by omega) (show (i : Int) ≤ 9223372036854775807 by omega), wf64 (show (-9223372036854775808 : Int) ≤ max p.1 c.1 by omega) (show max p.1 c.1 ≤ 9223372036854775807 by omega)⟩
theorem anchor_le {l : List Ev} (hr : OkRun l) (n : Int) : 0 ≤ anchorL l n ∧ anchorL l n ≤ 28 := by
 unfold anchorL
 cases ho : openE l n with
 | none => exact ⟨by decide, by decide⟩
 | some o =>
  obtain ⟨h1, h2, -⟩ := openE_some ho
  obtain ⟨-, -, h3, h4⟩ := open_bd (cycOk hr) h1 h2
  have h5 : 0 ≤ o.vl := by omega
  exact ⟨h5, h4⟩
theorem flatMap_filter_nil {α β : Type} (p : α → Bool) (f : α → List β) : ∀ L : List α, (∀ x ∈ L, p x = false → f x = []) → L.flatMap f = (L.filter p).flatMap f
 | [], _ => rfl
 | x :: L, h => by
  have ih := flatMap_filter_nil p f L (fun y hy => h y (List.mem_cons_of_mem _ hy))
  rw [List.flatMap_cons, List.filter_cons, ih]
  cases hp : p x with
  | true => simp
  | false => rw [h x (List.mem_cons_self ..) hp]; simp
theorem grants_upto {l : List Ev} {P : List Pd} {ac t u a : Int} {H : List Had} {Ot Ou : List (Int × Int)} (hr : OkRun l) (ht : CycsOk a (heldA l H) t Ot) (hu : CycsOk a (heldA l H) u Ou) (htu : t ≤ u) :
 grantsB l P ac t H Ot = (grantsB l P ac u H Ou).filter fun g => decide (g.1.f ≤ t) := by
 have e1 : (grantsB l P ac u H Ou).filter (fun g => decide (g.1.f ≤ t)) = Ou.flatMap (grantsAt l P ac t H) := by
  unfold grantsB
  rw [List.filter_flatMap]
  congr 1
  funext c
  show ((H.flatMap _).filter _) = H.flatMap _
  rw [List.filter_flatMap]
  congr 1
  funext h
  rw [List.filter_filter]
  congr 1
  funext g
  by_cases hg : g.1.f ≤ t
  · rw [decide_eq_true hg, decide_eq_true (show g.1.f ≤ u by omega)]; rfl
  rw [decide_eq_false hg]; rfl
 have e2 : Ou.flatMap (grantsAt l P ac t H) = (Ou.filter fun c => decide (c ∈ Ot)).flatMap (grantsAt l P ac t H) :=
  flatMap_filter_nil _ _ _ fun c hc hn => by
   have hn : c ∉ Ot := of_decide_eq_false hn
   apply List.eq_nil_iff_forall_not_mem.2
   intro g hg
   apply hn
   have hg2 : g ∈ grantsB l P ac t H [c] := by unfold grantsB; rw [List.flatMap_singleton]; exact hg
   obtain ⟨hf, h, hh, c', hc', hg3⟩ := grants_mem hg2
   obtain rfl := List.mem_singleton.1 hc'
   obtain ⟨p, hp, i, x, b, -, -, hm, -, rfl⟩ := grantB_mem hg3
   obtain ⟨-, -, hm⟩ := (meetB_iff _ _ _ _).1 hm
   obtain ⟨m, hm0, hm1, rfl, -⟩ := (hu.mem c').1 hc
   have hpa : p ∈ heldA l H := List.mem_flatMap.2 ⟨_, hh, hp⟩
   have h0 := (heldA_in hr (H := H) p hpa).1
   have hf : max p.1 (beg a m) ≤ t := hf
   have hm : max p.1 (beg a m) < min p.2 (beg a (m + 1)) := hm
   exact (ht.mem _).2 ⟨m, hm0, hm1, rfl, max p.1 (beg a m), ⟨p, hpa, by omega, by omega⟩, by omega, hf, by omega, by omega⟩
 have e3 : (Ou.filter fun c => decide (c ∈ Ot)) = Ot :=
  ord_one (r := fun c d : Int × Int => c.1 < d.1) (fun _ => Int.lt_irrefl _) (fun _ _ _ h g => Int.lt_trans h g) _ _ (hu.srt.filter _) ht.srt fun c => by
   rw [List.mem_filter, decide_eq_true_eq]
   refine ⟨fun h => h.2, fun h => ⟨?_, h⟩⟩
   obtain ⟨m, h1, h2, h3, x, h4, h5, h6, h7, h8⟩ := (ht.mem c).1 h
   exact (hu.mem c).2 ⟨m, h1, h2, h3, x, h4, h5, by omega, h7, h8⟩
 rw [e1, e2, e3]
 rfl
def ApartG (a b : Bu × Int) : Prop := sameId a.1 b.1 = false ∧ precB b.1 a.1 = false
theorem apart_of {a b : Bu × Int} (h : ¬ (a.1.sb = b.1.sb ∧ a.1.pr = b.1.pr ∧ a.1.ix = b.1.ix)) : ApartG a b := by
 constructor
 · cases hs : sameId a.1 b.1 with
   | false => rfl
   | true =>
    unfold sameId at hs
    simp only [Bool.and_eq_true, decide_eq_true_eq, sameS_iff] at hs
    exact absurd ⟨hs.1.1.1, hs.1.1.2, hs.1.2⟩ h
 cases hs : precB b.1 a.1 with
 | false => rfl
 | true =>
  unfold precB at hs
  simp only [Bool.and_eq_true, decide_eq_true_eq, sameS_iff] at hs
  exact absurd ⟨hs.1.1.1.1.symm, hs.1.1.1.2.symm, hs.1.1.2.symm⟩ h
theorem apart_f {a b : Bu × Int} (h1 : a.1.f < b.1.f) (h2 : b.1.f < b.1.t) : ApartG a b := by
 constructor
 · cases hs : sameId a.1 b.1 with
   | false => rfl
   | true =>
    unfold sameId at hs
    simp only [Bool.and_eq_true, decide_eq_true_eq] at hs
    omega
 cases hs : precB b.1 a.1 with
 | false => rfl
 | true =>
  unfold precB at hs
  simp only [Bool.and_eq_true, decide_eq_true_eq] at hs
  omega
theorem grants_ok {l : List Ev} {P : List Pd} {ac t a : Int} {H : List Had} {O : List (Int × Int)} (ha : 1 ≤ a) (hb : a ≤ 28) (hH : HadOk l ac H) (hO : CycsOk a (heldA l H) t O) : GrantsOk (grantsB l P ac t H O) := by
 have key : (grantsB l P ac t H O).Pairwise ApartG := by
  unfold grantsB
  rw [List.pairwise_flatMap]
  constructor
  · intro c hc
    unfold grantsAt
    rw [List.pairwise_flatMap]
    constructor
    · intro h hh
      refine List.Pairwise.filter _ ?_
      unfold grantB
      split
      · exact List.Pairwise.nil
      unfold grantsL
      rw [List.pairwise_iff_getElem]
      intro i j hi hj hij
      rw [List.getElem_mapIdx, List.getElem_mapIdx]
      refine apart_of fun h => ?_
      have h3 : (i : Int) = (j : Int) := h.2.2
      omega
    refine hH.srt.imp fun {h h'} hlt x hx y hy => ?_
    obtain ⟨hx, -⟩ := List.mem_filter.1 hx
    obtain ⟨hy, -⟩ := List.mem_filter.1 hy
    obtain ⟨p, -, i, u, b, -, -, -, -, rfl⟩ := grantB_mem hx
    obtain ⟨q, -, j, v, d, -, -, -, -, rfl⟩ := grantB_mem hy
    refine apart_of fun hs => ?_
    have h1 : h.1 = h'.1 := hs.1
    have h2 : h.2 = h'.2 := hs.2.1
    have h3 : h = h' := Prod.ext h1 h2
    exact hadLt_irr h' (h3 ▸ hlt)
  refine List.Pairwise.imp_of_mem (fun {c c'} hc hc' hlt x hx y hy => ?_) hO.srt
  obtain ⟨m, -, -, rfl, -⟩ := (hO.mem c).1 hc
  obtain ⟨m', -, -, rfl, -⟩ := (hO.mem c').1 hc'
  have hlt : beg a m < beg a m' := hlt
  have hmm : m < m' := by
   apply Int.lt_of_not_ge
   intro h
   have := beg_mono ha hb h
   omega
  have hmm2 := beg_mono ha hb (show m + 1 ≤ m' by omega)
  unfold grantsAt at hx hy
  obtain ⟨h, -, hx⟩ := List.mem_flatMap.1 hx
  obtain ⟨h', -, hy⟩ := List.mem_flatMap.1 hy
  obtain ⟨hx, -⟩ := List.mem_filter.1 hx
  obtain ⟨hy, -⟩ := List.mem_filter.1 hy
  obtain ⟨p, -, i, u, b, -, -, hm1, -, rfl⟩ := grantB_mem hx
  obtain ⟨q, -, j, v, d, -, -, hm2, -, rfl⟩ := grantB_mem hy
  obtain ⟨-, -, hm1⟩ := (meetB_iff _ _ _ _).1 hm1
  obtain ⟨-, -, hm2⟩ := (meetB_iff _ _ _ _).1 hm2
  have hm1 : max p.1 (beg a m) < min p.2 (beg a (m + 1)) := hm1
  have hm2 : max q.1 (beg a m') < min q.2 (beg a (m' + 1)) := hm2
  exact apart_f (show max p.1 (beg a m) < max q.1 (beg a m') by omega) hm2
 exact ⟨key.imp fun h => h.1, key.imp fun h => h.2⟩
theorem grants_back {l : List Ev} {P : List Pd} {ac t u : Int} {H : List Had} {O : List (Int × Int)} : ∀ x ∈ grantsB l P ac u H O, ∀ y ∈ grantsB l P ac u H O, precB x.1 y.1 = true → decide (y.1.f ≤ t) = true → decide (x.1.f ≤ t) = true := by
 intro x hx y hy hp hf
 obtain ⟨-, h, -, c, -, hx⟩ := grants_mem hx
 obtain ⟨p, -, i, v, b, -, -, hm1, -, rfl⟩ := grantB_mem hx
 obtain ⟨-, -, hm1⟩ := (meetB_iff _ _ _ _).1 hm1
 unfold precB at hp
 simp only [Bool.and_eq_true, decide_eq_true_eq] at hp
 have h1 : min p.2 c.2 = y.1.f := hp.2
 have hf := of_decide_eq_true hf
 exact decide_eq_true (show max p.1 c.1 ≤ t by omega)
theorem adv_two {l : List Ev} {P : List Pd} {ac t u a : Int} {H : List Had} {Ot Ou : List (Int × Int)} {L : List Bu} (hr : OkRun l) (ha : 1 ≤ a) (hb : a ≤ 28) (hL : OrdB L) (hH : HadOk l ac H) (ht : CycsOk a (heldA l H) t Ot) (hu : CycsOk a (heldA l H) u Ou) (htu : t ≤ u) :
 foldG (grantsB l P ac u H Ou) (foldG (grantsB l P ac t H Ot) L) = foldG (grantsB l P ac u H Ou) L := by
 rw [grants_upto hr ht hu htu]
 exact foldG_two hL (grants_ok ha hb hH hu) (fun x hx y hy h1 h2 => grants_back x hx y hy h1 h2)
theorem foldG_all_in {G : List (Bu × Int)} {L : List Bu} (h : ∀ g ∈ G, existsB L g.1 = true) : foldG G L = L := foldG_idle G h
theorem adv_again {l : List Ev} {P : List Pd} {ac t u a : Int} {H : List Had} {Ot Ou : List (Int × Int)} {L : List Bu} (hr : OkRun l) (ht : CycsOk a (heldA l H) t Ot) (hu : CycsOk a (heldA l H) u Ou) (htu : t ≤ u) :
 foldG (grantsB l P ac t H Ot) (foldG (grantsB l P ac u H Ou) L) = foldG (grantsB l P ac u H Ou) L := by
 refine foldG_all_in fun g hg => ?_
 rw [grants_upto hr ht hu htu] at hg
 exact foldG_has _ (List.mem_filter.1 hg).1
def GsOf (l : List Ev) (P : List Pd) (ac t : Int) (G : List (Bu × Int)) : Prop := (¬ advOn l ac t ∧ G = []) ∨ (advOn l ac t ∧ ∃ H O, HadOk l ac H ∧ CycsOk (anchorL l ac) (heldA l H) t O ∧ G = grantsB l P ac t H O)
theorem AdvTo.gs {l : List Ev} {P : List Pd} {ac t : Int} {L : List Bu} {WL CL : List I5} {w w' : World} {e : Ending} (h : AdvTo l P ac t L WL CL w e w') : ∃ G, GsOf l P ac t G ∧ StTo (foldG G L) WL CL w e w' := by
 rcases h with ⟨h1, h2⟩ | ⟨h1, H, O, h2, h3, h4⟩
 · exact ⟨[], Or.inl ⟨h1, rfl⟩, h2⟩
 exact ⟨_, Or.inr ⟨h1, H, O, h2, h3, rfl⟩, h4⟩
section
variable {l : List Ev} {P : List Pd} {ac t u : Int} {G K : List (Bu × Int)} {L : List Bu}
theorem GsOf.one (h : GsOf l P ac t G) (g : GsOf l P ac t K) : G = K := by
 rcases h with ⟨h1, rfl⟩ | ⟨h1, H, O, h2, h3, rfl⟩
 · rcases g with ⟨g1, rfl⟩ | ⟨g1, -⟩
   · rfl
   exact absurd g1 h1
 rcases g with ⟨g1, -⟩ | ⟨g1, H', O', g2, g3, rfl⟩
 · exact absurd h1 g1
 obtain rfl := h2.one g2
 obtain rfl := h3.one g3
 rfl
theorem GsOf.two (hr : OkRun l) (hL : OrdB L) (ht : GsOf l P ac t G) (hu : GsOf l P ac u K) (htu : t ≤ u) (h1 : u < 12622780800) : foldG K (foldG G L) = foldG K L := by
 rcases ht with ⟨-, rfl⟩ | ⟨⟨t0, -, t2⟩, H, O, h2, h3, rfl⟩
 · rfl
 rcases hu with ⟨g1, -⟩ | ⟨-, H', O', g2, g3, rfl⟩
 · exact absurd ⟨by omega, h1, t2⟩ g1
 obtain rfl := h2.one g2
 exact adv_two hr (by omega) (anchor_le hr ac).2 hL h2 h3 g3 htu
theorem GsOf.again (hr : OkRun l) (ht : GsOf l P ac t G) (hu : GsOf l P ac u K) (htu : t ≤ u) (h1 : u < 12622780800) : foldG G (foldG K L) = foldG K L := by
 rcases ht with ⟨-, rfl⟩ | ⟨⟨t0, -, t2⟩, H, O, h2, h3, rfl⟩
 · rfl
 rcases hu with ⟨g1, -⟩ | ⟨-, H', O', g2, g3, rfl⟩
 · exact absurd ⟨by omega, h1, t2⟩ g1
 obtain rfl := h2.one g2
 exact adv_again hr h3 g3 htu
theorem GsOf.key (hA : AdvH l P ac t) (h : GsOf l P ac t G) : ∀ g ∈ G, KeyB g.1 := by
 rcases h with ⟨-, rfl⟩ | ⟨-, H, O, h2, h3, rfl⟩
 · exact fun g hg => by cases hg
 exact hA.key H O h2 h3
theorem GsOf.few (hA : AdvH l P ac t) (h : GsOf l P ac t G) : G.length ≤ 300000 := by
 rcases h with ⟨-, rfl⟩ | ⟨h1, H, O, h2, h3, rfl⟩
 · exact Nat.zero_le _
 exact hA.few H O h2 h3 h1
end
theorem AlikeB.key {a b : Bu} (h : AlikeB a b) (hk : KeyB b) : KeyB a := ⟨by rw [h.sb]; exact hk.s, by rw [h.pr]; exact hk.p, by rw [h.ix]; exact hk.i, by rw [h.f]; exact hk.f⟩
def RoR (w : World) (b o : Nat) (x : Bd) : Prop := w.cell? ⟨b, o + 3, none⟩ = some (.int .i64 x.ro)
def RosAt (w : World) (v : Value) (l : List Bd) : Prop := SliceAt 6 RoR w v l
theorem RosAt.below {w w' : World} {v : Value} {l : List Bd} (h : RosAt w v l) (hb : Below w.heap.size w w') : RosAt w' v l := SliceAt.below (R := RoR) (fun _ _ b o _ hb hB h => (hb.cell (p := ⟨b, o + 3, none⟩) hB).trans h) h hb
structure RvFr (B base b0 : Nat) (l : List Ev) (ac : Int) (cv hv : Value) (O : List (Int × Int)) (H : List HoX) (wa ca : Option Addr) (wc cc : Nat) (WL CL : List I5) (L : List Bu) (w0 w : World) : Prop where
 row : ∃ (a : Option Addr) (c : Nat) (X : List BuX), w.heap[B]? = some (Obj.cells #[.slice a X.length c, .slice wa WL.length wc, .slice ca CL.length cc] 37) ∧ w.ownsRow base 26 12 (.slice a X.length c) X.length (X.flatMap buCells) ∧ plB X = L ∧ ∀ x ∈ X, BuO base w x
 cyc : PersAt w cv O
 hos : RecAt (hoCells ac) 4 w hv H
 hrd : ∀ x ∈ H, HoRd l w x
 wal : w.ownsRow base 165 5 (.slice wa WL.length wc) WL.length (WL.flatMap i5Cells)
 cnt : w.ownsRow base 167 5 (.slice ca CL.length cc) CL.length (CL.flatMap i5Cells)
 bel : Below b0 w0 w
 sz : b0 ≤ w0.heap.size
 bB : b0 ≤ B
section
variable {B base b0 : Nat} {l : List Ev} {ac : Int} {cv hv : Value} {O : List (Int × Int)} {H : List HoX} {wa ca : Option Addr} {wc cc : Nat} {WL CL : List I5} {L : List Bu} {w0 w w' : World}
theorem RvFr.go (h : RvFr B base b0 l ac cv hv O H wa ca wc cc WL CL L w0 w) (hb : Below w.heap.size w w') : RvFr B base b0 l ac cv hv O H wa ca wc cc WL CL L w0 w' := by
 obtain ⟨a, c, X, h1, h2, h3, h4⟩ := h.row
 exact ⟨⟨a, c, X, (hb.block _ (ltB9 h1)).trans h1, ownsRow_below h2 hb, h3, fun x hx => (h4 x hx).below hb⟩, h.cyc.below hb, h.hos.below hb, fun x hx => ⟨(h.hrd x hx).1.below hb, (h.hrd x hx).2⟩, ownsRow_below h.wal hb, ownsRow_below h.cnt hb, h.bel.trans (hb.mono (Nat.le_trans h.sz h.bel.size)), h.sz, h.bB⟩
theorem RvFr.blank (h : RvFr B base b0 l ac cv hv O H wa ca wc cc WL CL L w0 w) : Blank w B isInt := by
 obtain ⟨a, c, X, h1, -⟩ := h.row
 refine blank_row h1 fun u hu => ?_
 rintro ⟨q, n, rfl⟩
 simp at hu
theorem RvFr.put {L' : List Bu} {y : Value} (h : RvFr B base b0 l ac cv hv O H wa ca wc cc WL CL L w0 w) (hy : CrVal base L' w y) : RvFr B base b0 l ac cv hv O H wa ca wc cc WL CL L' w0 (w.setCell ⟨B, 0, none⟩ y) := by
 obtain ⟨a, c, X, h1, h2, h3, h4⟩ := h.row
 obtain ⟨a2, c2, R, rfl, g1, g2, g3⟩ := hy
 have hbl := h.blank
 have hs : w.heap.size ≤ (w.setCell ⟨B, 0, none⟩ (.slice a2 R.length c2)).heap.size := by simp
 have hk : ∀ k, k < w.heap.size → k ≠ B → (w.setCell ⟨B, 0, none⟩ (.slice a2 R.length c2)).heap[k]? = w.heap[k]? := fun k _ hne => Below.heap_setCell _ _ _ _ hne
 exact ⟨⟨a2, c2, R, row_set _ h1, own_setCell1 g1 (own_other g1 h1 (by decide)), g2, fun x hx => ⟨own_setCell1 (g3 x hx).row (own_other (g3 x hx).row h1 (by decide)), (g3 x hx).sizes, (g3 x hx).p, (g3 x hx).len⟩⟩,
  persAt_but h.cyc hbl hs hk, hosAt_but h.hos hbl hs hk, fun x hx => hoRd_but (h.hrd x hx) hbl hs hk, own_setCell1 h.wal (own_other h.wal h1 (by decide)), own_setCell1 h.cnt (own_other h.cnt h1 (by decide)),
  h.bel.trans ⟨rfl, rfl, rfl, hs, fun k hk2 => Below.heap_setCell _ _ _ _ (by have := h.bB; show k ≠ B; omega)⟩, h.sz, h.bB⟩
end
end Go.Proofs.Ytngippiilgdnoaa
namespace Go.Proofs.Ytngippiilgdnoaa
open Go.RowKit
open Go.RowKit
end Go.Proofs.Ytngippiilgdnoaa
namespace Go.Proofs.Ytngippiilgdnoaa
open Go.RowKit
theorem sa_ok1 : OkEv (bookOf []) 0 sa1 :=
 ⟨by decide, by decide, by decide, by decide, by decide, fun _ => by decide, fun h => absurd h (by decide), fun h => absurd h (by decide), fun _ => rfl, fun _ => by decide, fun _ => by decide, fun _ h => absurd rfl h, fun h => absurd h (by decide), fun h => absurd h (by decide)⟩
theorem sa_ok2 : OkEv (bookOf [sa1]) 0 sa2 :=
 ⟨by decide, by decide, by decide, by decide, by decide, fun _ => by decide, fun h => absurd h (by decide), fun _ => by decide, fun h => absurd h (by decide), fun h => absurd h (by decide), fun h => absurd h (by decide), fun _ _ => ⟨0, by decide, by decide, by decide⟩, fun _ => by decide, fun h => absurd h (by decide)⟩
theorem sa_ok3 : OkEv (bookOf [sa1, sa2]) 0 sa3 :=
 ⟨by decide, by decide, by decide, by decide, by decide, fun h => absurd h (by decide), fun _ => rfl, fun _ => by decide, fun h => absurd h (by decide), fun h => absurd h (by decide), fun h => absurd h (by decide), fun h => absurd h (by decide), fun h => absurd h (by decide), fun _ => by decide⟩
theorem sa_run : OkRun saL := fun i h => by
 match i, h with
 | 0, _ => exact sa_ok1
 | 1, _ => exact sa_ok2
 | 2, _ => exact sa_ok3
 | i + 3, h => exact absurd (show i + 3 < 3 from h) (by omega)
theorem sa_anchor : anchorL saL 1 = 1 := by decide +kernel
theorem sa_had : HadOk saL 1 [(1, plusT)] := by
 refine ⟨List.pairwise_singleton _ _, fun h => ?_⟩
 rw [List.mem_singleton]
 constructor
 · rintro rfl
   exact ⟨sa3, by simp [saL], rfl, ⟨sa2, by simp [saL], rfl, rfl, rfl⟩, rfl⟩
 rintro ⟨e, he, hk, -, rfl⟩
 have he' : e = sa1 ∨ e = sa2 ∨ e = sa3 := by simpa [saL] using he
 rcases he' with rfl | rfl | rfl
 · exact absurd hk (by decide)
 · exact absurd hk (by decide)
 rfl
theorem sa_act : actL 1 plusT saL = [(777600, 12622780800)] := by decide +kernel
theorem sa_held : heldA saL [(1, plusT)] = [(777600, 12622780800)] := by
 unfold heldA
 rw [List.flatMap_singleton]
 exact sa_act
theorem beg1_0 : beg 1 0 = 0 := by decide
theorem beg1_1 : beg 1 1 = 2678400 := by decide
theorem beg1_2 : beg 1 2 = 5184000 := by decide
theorem sa_mem {x : Int} (h0 : 777600 ≤ x) (h1 : x < 12622780800) : MemP [((777600 : Int), (12622780800 : Int))] x := ⟨_, List.mem_singleton_self _, h0, h1⟩
theorem sa_mo {m x : Int} (h1 : beg 1 m ≤ x) (h2 : x < beg 1 (m + 1)) (h0 : 0 ≤ x) (h3 : x < 5184000) : (m = 0 ∧ x < 2678400) ∨ (m = 1 ∧ 2678400 ≤ x) := by
 rcases Int.lt_trichotomy m 0 with h | h | h
 · have := beg_mono (a := 1) (by decide) (by decide) (show m + 1 ≤ 0 by omega)
   rw [beg1_0] at this
   omega
 · subst h
   rw [show (0 : Int) + 1 = 1 from rfl, beg1_1] at h2
   exact Or.inl ⟨rfl, h2⟩
 rcases Int.lt_trichotomy m 1 with h' | h' | h'
 · omega
 · subst h'
   rw [beg1_1] at h1
   exact Or.inr ⟨rfl, h1⟩
 have := beg_mono (a := 1) (by decide) (by decide) (show 2 ≤ m by omega)
 rw [beg1_2] at this
 omega
theorem cyc1_0 : cyc 1 0 = (0, 2678400) := by decide +kernel
theorem cyc1_1 : cyc 1 1 = (2678400, 5184000) := by decide +kernel
theorem sa_cyc1 : CycsOk 1 [(777600, 12622780800)] 1728000 [(0, 2678400)] := by
 refine ⟨List.pairwise_singleton _ _, fun c => ?_⟩
 rw [List.mem_singleton]
 constructor
 · rintro rfl
   exact ⟨0, by decide, by decide, cyc1_0.symm, 777600, sa_mem (by decide) (by decide), by decide, by decide, by decide, by decide⟩
 rintro ⟨m, -, -, rfl, x, -, h0, hx, h1, h2⟩
 rcases sa_mo h1 h2 h0 (by omega) with ⟨rfl, -⟩ | ⟨-, h⟩
 · exact cyc1_0
 omega
theorem sa_cyc2 : CycsOk 1 [(777600, 12622780800)] 2678400 [(0, 2678400), (2678400, 5184000)] := by
 refine ⟨by simp, fun c => ?_⟩
 constructor
 · intro h
   rcases List.mem_cons.1 h with rfl | h
   · exact ⟨0, by decide, by decide, cyc1_0.symm, 777600, sa_mem (by decide) (by decide), by decide, by decide, by decide, by decide⟩
   obtain rfl := List.mem_singleton.1 h
   exact ⟨1, by decide, by decide, cyc1_1.symm, 2678400, sa_mem (by decide) (by decide), by decide, by decide, by decide, by decide⟩
 rintro ⟨m, -, -, rfl, x, -, h0, hx, h1, h2⟩
 rcases sa_mo h1 h2 h0 (by omega) with ⟨rfl, -⟩ | ⟨rfl, -⟩
 · rw [cyc1_0]; exact List.mem_cons_self
 rw [cyc1_1]; exact List.mem_cons_of_mem _ List.mem_cons_self
def saG (f t un lf : Int) : Bu := ⟨1, 1, plusT, 0, 1, [], f, t, un, lf, 0, false⟩
theorem sa_at (t : Int) (h : 0 ≤ t) : atL saP plusT t = some saX := by
 have hk : keepAt plusT t saX = true := by
  unfold keepAt
  rw [show saX.nm = plusT from rfl, eqS_self, show saX.fm = 0 from rfl, decide_eq_true h]
  rfl
 unfold atL saP
 rw [List.filter_cons, if_pos hk, List.filter_nil]
 rfl
theorem sa_gr (c q : Int × Int) (hq : firstP [(777600, 12622780800)] c = some q) (h0 : 0 ≤ q.1) : grantB saP 1 (1, plusT) [(777600, 12622780800)] c = [(saG q.1 q.2 100 100, 25)] := by
 unfold grantB
 rw [hq]
 show grantsL 1 (1, plusT) q (bsOf (atL saP plusT q.1)) = _
 rw [sa_at _ h0]
 rfl
theorem sa_gr1 : grantB saP 1 (1, plusT) [(777600, 12622780800)] (0, 2678400) = [(saG 777600 2678400 100 100, 25)] := sa_gr _ (777600, 2678400) (by decide +kernel) (by decide)
theorem sa_gr2 : grantB saP 1 (1, plusT) [(777600, 12622780800)] (2678400, 5184000) = [(saG 2678400 5184000 100 100, 25)] := sa_gr _ (2678400, 5184000) (by decide +kernel) (by decide)
theorem sa_on (t : Int) (h0 : 0 ≤ t) (h1 : t < 12622780800) : advOn saL 1 t := ⟨h0, h1, by rw [sa_anchor]; decide⟩
theorem sa_g1 : GsOf saL saP 1 1728000 [(saG 777600 2678400 100 100, 25)] := by
 refine Or.inr ⟨sa_on _ (by decide) (by decide), [(1, plusT)], [(0, 2678400)], sa_had, by rw [sa_anchor, sa_held]; exact sa_cyc1, ?_⟩
 unfold grantsB grantsAt
 rw [List.flatMap_singleton, List.flatMap_singleton]
 show _ = (grantB saP 1 (1, plusT) (actL 1 plusT saL) (0, 2678400)).filter _
 rw [sa_act, sa_gr1]
 rfl
theorem sa_g2 : GsOf saL saP 1 2678400 [(saG 777600 2678400 100 100, 25), (saG 2678400 5184000 100 100, 25)] := by
 refine Or.inr ⟨sa_on _ (by decide) (by decide), [(1, plusT)], [(0, 2678400), (2678400, 5184000)], sa_had, by rw [sa_anchor, sa_held]; exact sa_cyc2, ?_⟩
 unfold grantsB grantsAt
 rw [List.flatMap_cons, List.flatMap_singleton, List.flatMap_singleton, List.flatMap_singleton]
 show _ = (grantB saP 1 (1, plusT) (actL 1 plusT saL) (0, 2678400)).filter _ ++ (grantB saP 1 (1, plusT) (actL 1 plusT saL) (2678400, 5184000)).filter _
 rw [sa_act, sa_gr1, sa_gr2]
 rfl
theorem sa_fold1 : foldG [(saG 777600 2678400 100 100, 25)] [] = [saG 777600 2678400 100 100] := rfl
theorem sa_same (f t un lf f' t' un' lf' : Int) : sameId (saG f t un lf) (saG f' t' un' lf') = decide (f = f') := by
 unfold sameId saG
 simp [sameS_refl]
theorem sa_prec (f t un lf f' t' un' lf' : Int) : precB (saG f t un lf) (saG f' t' un' lf') = decide (t = f') := by
 unfold precB saG
 simp [sameS_refl]
theorem sa_earl (f t un lf f' t' un' lf' : Int) : earlB (saG f t un lf) (saG f' t' un' lf') = decide (f < f') := by
 unfold earlB saG
 simp [sameS_refl]
theorem sa_fold2 : foldG [(saG 777600 2678400 100 100, 25), (saG 2678400 5184000 100 100, 25)] [saG 777600 2678400 100 40] = [saG 777600 2678400 100 40, saG 2678400 5184000 125 125] := by
 have e1 : createB [saG 777600 2678400 100 40] (saG 777600 2678400 100 100, 25) = [saG 777600 2678400 100 40] := by
  unfold createB
  rw [if_pos (by unfold existsB; simp [sa_same])]
 have e2 : bornB [saG 777600 2678400 100 40] (saG 2678400 5184000 100 100, 25) = saG 2678400 5184000 125 125 := by
  unfold bornB
  simp only [List.find?_cons, sa_prec, decide_true]
  unfold carryB
  rw [if_pos (by rw [sa_prec]; decide), show rollN (saG 777600 2678400 100 40) 25 = 25 by decide]
  show (⟨1, 1, plusT, 0, 1, [], 2678400, 5184000, wrap64 (100 + 25), wrap64 (100 + 25), 0, false⟩ : Bu) = _
  rw [show wrap64 (100 + 25) = 125 by unfold wrap64; decide]
  rfl
 show createB (createB _ _) _ = _
 rw [e1]
 unfold createB
 rw [if_neg (by unfold existsB; simp [sa_same]), e2]
 unfold insB insT kT
 simp only [List.takeWhile_cons, sa_earl]
 rfl
theorem sa_fewP : FewP saP := by
 refine ⟨by decide, fun p hp => ?_⟩
 obtain rfl := List.mem_singleton.1 hp
 refine ⟨by decide, fun b hb => ?_⟩
 obtain rfl := List.mem_singleton.1 hb
 decide
theorem sa_advH (t : Int) (h : t < 69120000) : AdvH saL saP 1 t := advH_of sa_run (by decide) (Or.inr (Or.inl h)) (fun e he => by
 have he' : e = sa1 ∨ e = sa2 ∨ e = sa3 := by simpa [saL] using he
 rcases he' with rfl | rfl | rfl <;> (unfold maxLen; decide)) (fun p hp => by
 obtain rfl := List.mem_singleton.1 hp
 decide) (by rw [sa_anchor]; decide) (by omega)
end Go.Proofs.Ytngippiilgdnoaa
