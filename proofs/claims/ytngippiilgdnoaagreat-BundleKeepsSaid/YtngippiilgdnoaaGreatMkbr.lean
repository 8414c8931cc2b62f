/-
  The walks of the identity of a bucket and of the program's add.
-/
import Derived.Test.YtngippiilgdnoaaGreatMkbq
set_option maxRecDepth 100000
set_option maxHeartbeats 25600000
namespace Go.Proofs.YtngippiilgdnoaaGreat
open Go.RowKit Go.Maps
theorem of_calls (x : BuX) (w : World) : Calls Tryz.prog 52 #[buVal x] w fun e w' => e = .returned (idVal x.b) ∧ Below w.heap.size w w' := by
 obtain ⟨W, hW, r0, r1, hw0, hz⟩ := two_rows2 w (Obj.cells #[.int .i64 x.b.ac, .int .i64 x.b.sb, .string x.b.pr, .int .i64 x.b.ix, .int .i64 x.b.kd, .slice x.za x.zn x.zc, .int .i64 x.b.f, .int .i64 x.b.t, .int .i64 x.b.un, .int .i64 x.b.lf, .int .i64 x.b.pt, .bool x.b.sh] 60) (Obj.cells #[.int .i64 0, .string ⟨#[]⟩, .int .i64 0, .int .i64 0] 111)
 have HW := hZ9 hW
 have R1 := hZ9 r1
 have HbF := hZ9 (below_setRow1 hw0 (show w.heap.size ≤ w.heap.size + 1 by omega) #[.int .i64 x.b.sb, .string x.b.pr, .int .i64 x.b.ix, .int .i64 x.b.f])
 have tQ := fun j => cell_of_row W _ j _ _ _ r0
 have x1 := tQ 1
 have x2 := tQ 2
 have x3 := tQ 3
 have x6 := tQ 6
 clear tQ
 unfold buVal
 clear hW r0 r1 hw0 hz
 go_enter Tryz.func52, Tryz.ntmps52
 go_upto_region 1 with (fail)
 rw [← HW.out]
 have tQ := fun j => cell_setRow_same W (w.heap.size + 1) j _ #[.int .i64 x.b.sb, .string x.b.pr, .int .i64 x.b.ix, .int .i64 x.b.f] _ _ R1.out
 have t0 := tQ 0
 have t1 := tQ 1
 have t2 := tQ 2
 have t3 := tQ 3
 clear tQ
 repeat (first | refine wpList_store_row rfl _ _ _ rfl (w.heap.size + 1) #[.int .i64 x.b.sb, .string x.b.pr, .int .i64 x.b.ix, .int .i64 x.b.f] rfl rfl 111 _ R1.out (by kernel_rfl) rfl (by simp [Value.oneCell']) ?_ | go_step)
 refine bodyPost_ret (v := .agg #[.int .i64 x.b.sb, .string x.b.pr, .int .i64 x.b.ix, .int .i64 x.b.f]) (by simp [results, Tryz.results52, go_sem, t0, t1, t2, t3]) rfl ?_
 exact ⟨rfl, HbF.out⟩
structure Keep2 (S M : Nat) (w w' : World) : Prop where
 os : w'.os = w.os
 tape : w'.tape = w.tape
 output : w'.output = w.output
 size : w.heap.size ≤ w'.heap.size
 block : ∀ k, k < w.heap.size → k ≠ S → k ≠ M → w'.heap[k]? = w.heap[k]?
theorem Keep2.of_below {S M : Nat} {w w' : World} (h : Below w.heap.size w w') : Keep2 S M w w' := ⟨h.os, h.tape, h.output, h.size, fun k hk _ _ => h.block k hk⟩
theorem Keep2.trans {S M : Nat} {a b c : World} (h : Keep2 S M a b) (g : Keep2 S M b c) : Keep2 S M a c :=
 ⟨g.os.trans h.os, g.tape.trans h.tape, g.output.trans h.output, Nat.le_trans h.size g.size, fun k hk h1 h2 => (g.block k (Nat.lt_of_lt_of_le hk h.size) h1 h2).trans (h.block k hk h1 h2)⟩
theorem Keep2.grown {S M : Nat} {w w' : World} {o : Option Nat} (h : w.grownBy w' o) (ho : ∀ i, o = some i → i = S ∨ i = M) : Keep2 S M w w' :=
 ⟨h.os, h.tape, h.output, h.size, fun k hk h1 h2 => h.block k hk (fun e => by rcases ho k e.symm with q | q <;> contradiction)⟩
theorem Keep2.below {S M B : Nat} {w w' : World} (h : Keep2 S M w w') (hB : B ≤ w.heap.size) (hS : B ≤ S) (hM : B ≤ M) : Below B w w' := ⟨h.os, h.tape, h.output, h.size, fun k hk => h.block k (by omega) (by omega) (by omega)⟩
structure StBox (S M base : Nat) (L : List Bu) (w : World) : Prop where
 row : ∃ (la : Option Addr) (lc : Nat) (X : List BuX), w.heap[S]? = some (Obj.cells #[.slice la X.length lc, .map (some M)] 108) ∧ w.ownsRow base 60 12 (.slice la X.length lc) X.length (X.flatMap buCells) ∧ plB X = L ∧ ∀ x ∈ X, BuO base w x
 has : ∃ Kl : List Bu, OwnS 111 w M (Kl.map idVal) ∧ (∀ b, Kl.any (fun x => sameId x b) = existsB L b) ∧ Kl.length ≤ L.length
 sm : S ≠ M
 sb : S < base
 mb : M < base
theorem StBox.keep {S M base : Nat} {L : List Bu} {w w' : World} (h : StBox S M base L w) (hb : Below w.heap.size w w') : StBox S M base L w' := by
 obtain ⟨la, lc, X, h1, h2, h3, h4⟩ := h.row
 obtain ⟨Kl, k1, k2, k3⟩ := h.has
 exact ⟨⟨la, lc, X, (hb.block _ (ltB9 h1)).trans h1, ownsRow_below h2 hb, h3, fun x hx => (h4 x hx).below hb⟩, ⟨Kl, k1.below hb, k2, k3⟩, h.sm, h.sb, h.mb⟩
theorem any_idVal {Kl : List Bu} {b : Bu} : idVal b ∈ Kl.map idVal ↔ Kl.any (fun x => sameId x b) = true := by
 rw [List.mem_map, List.any_eq_true]
 constructor
 · rintro ⟨x, hx, e⟩; exact ⟨x, hx, idVal_inj.1 e⟩
 rintro ⟨x, hx, e⟩; exact ⟨x, hx, idVal_inj.2 e⟩
def adPhi (S M G : Nat) (x : BuX) : Nat → Value → World → Prop
 | 0, v, _ => v = .pointer (some ⟨S, 0, none⟩)
 | 1, v, _ => v = .pointer (some ⟨S, 0, none⟩)
 | 2, v, _ => v = .pointer (some ⟨S, 1, none⟩)
 | 3, v, _ => v = .map (some M)
 | 4, v, _ => v = .pointer (some ⟨G, 0, none⟩)
 | 5, v, _ => v = buVal x
 | 6, v, _ => v = idVal x.b
 | _, _, _ => True
theorem adPhi_stays {S M G : Nat} {x : BuX} {w1 w2 : World} (_hb : Below w1.heap.size w1 w2) : ∀ kQ yQ, adPhi S M G x kQ yQ w1 → adPhi S M G x kQ yQ w2
 | 0, _, h => h
 | 1, _, h => h
 | 2, _, h => h
 | 3, _, h => h
 | 4, _, h => h
 | 5, _, h => h
 | 6, _, h => h
 | _ + 7, _, _ => trivial
def aePhi (S M : Nat) (x : BuX) : Nat → Value → World → Prop
 | 0, v, _ => v = .pointer (some ⟨S, 0, none⟩)
 | 1, v, _ => v = .pointer (some ⟨S, 0, none⟩)
 | 2, v, _ => v = .pointer (some ⟨S, 1, none⟩)
 | 3, v, _ => v = .map (some M)
 | 4, v, _ => v = buVal x
 | 5, v, _ => v = idVal x.b
 | _, _, _ => True
theorem aePhi_stays {S M : Nat} {x : BuX} {w1 w2 : World} (_hb : Below w1.heap.size w1 w2) : ∀ kQ yQ, aePhi S M x kQ yQ w1 → aePhi S M x kQ yQ w2
 | 0, _, h => h
 | 1, _, h => h
 | 2, _, h => h
 | 3, _, h => h
 | 4, _, h => h
 | 5, _, h => h
 | _ + 6, _, _ => trivial
theorem sadd_calls (S M base : Nat) (L : List Bu) (x : BuX) (r : Int) (w : World) (h : StBox S M base L w) (hbs : base ≤ w.heap.size) (hx : BuRd w x) (hk : KeyB x.b) (hl : L.length ≤ 900000) :
 Calls Tryz.prog 57 #[.pointer (some ⟨S, 0, none⟩), .agg #[.int .i64 x.b.ac, .int .i64 x.b.sb, .string x.b.pr, .int .i64 x.b.ix, .int .i64 x.b.kd, .slice x.za x.zn x.zc, .int .i64 x.b.f, .int .i64 x.b.t, .int .i64 x.b.un, .int .i64 x.b.lf, .int .i64 x.b.pt, .bool x.b.sh, .int .i64 r]] w fun e w' => e = .returned (.tuple #[]) ∧ StBox S M base (createB L (x.b, r)) w' ∧ Keep2 S M w w' := by
 obtain ⟨W, hW⟩ : ∃ W, W = w.alloc (Obj.cells #[.int .i64 x.b.ac, .int .i64 x.b.sb, .string x.b.pr, .int .i64 x.b.ix, .int .i64 x.b.kd, .slice x.za x.zn x.zc, .int .i64 x.b.f, .int .i64 x.b.t, .int .i64 x.b.un, .int .i64 x.b.lf, .int .i64 x.b.pt, .bool x.b.sh, .int .i64 r] 122) := ⟨_, rfl⟩
 have hw0 : Below w.heap.size w W := by rw [hW]; exact (Below.refl _ _).alloc (Nat.le_refl _) _
 have R0 := hZ9 (show W.heap[w.heap.size]? = some (Obj.cells #[.int .i64 x.b.ac, .int .i64 x.b.sb, .string x.b.pr, .int .i64 x.b.ix, .int .i64 x.b.kd, .slice x.za x.zn x.zc, .int .i64 x.b.f, .int .i64 x.b.t, .int .i64 x.b.un, .int .i64 x.b.lf, .int .i64 x.b.pt, .bool x.b.sh, .int .i64 r] 122) by rw [hW]; exact heap_alloc_new _ _)
 have hwn : w.heap.size < W.heap.size := (ltB9 R0.out)
 have HSt := hZ9 (h.keep hw0)
 have Hx := hZ9 (hx.below hw0)
 have Hk := hZ9 hk
 have Hbs := hZ9 (show base ≤ w.heap.size from hbs)
 have Hw0 := hZ9 hw0
 have HW := hZ9 hW
 obtain ⟨Kl, k1, k2, k3⟩ := HSt.out.has
 obtain ⟨lk, hlk⟩ := keyD hk
 obtain ⟨bo, hbo, hlu⟩ := k1.look lawD Tryz.underlying106 hlk
 have HK1 := hZ9 k1
 have HK2 := hZ9 k2
 have HK3 := hZ9 k3
 have Hlk := hZ9 hlk
 have Hbo := hZ9 (show bo = existsB L x.b by
  rw [← k2 x.b, Bool.eq_iff_iff, hbo, any_idVal])
 have HC := hZ9 (show createB L (x.b, r) = if existsB L x.b = true then L else insB (bornB L (x.b, r)) L from rfl)
 obtain ⟨la, lc, X, s1, s2, s3, s4⟩ := HSt.out.row
 have hS := (ltB9 s1)
 have HAw := hZ9 (show ∀ Z, Below W.heap.size W Z → (Z.cell? ⟨S, 0, none⟩ = some (.slice la X.length lc) ∧ Z.cell? ⟨S, 1, none⟩ = some (.map (some M))) ∧ (Z.cell? ⟨w.heap.size, 0, none⟩ = some (.int .i64 x.b.ac) ∧ Z.cell? ⟨w.heap.size, 1, none⟩ = some (.int .i64 x.b.sb) ∧ Z.cell? ⟨w.heap.size, 2, none⟩ = some (.string x.b.pr) ∧ Z.cell? ⟨w.heap.size, 3, none⟩ = some (.int .i64 x.b.ix) ∧ Z.cell? ⟨w.heap.size, 4, none⟩ = some (.int .i64 x.b.kd) ∧ Z.cell? ⟨w.heap.size, 5, none⟩ = some (.slice x.za x.zn x.zc) ∧ Z.cell? ⟨w.heap.size, 6, none⟩ = some (.int .i64 x.b.f) ∧ Z.cell? ⟨w.heap.size, 7, none⟩ = some (.int .i64 x.b.t) ∧ Z.cell? ⟨w.heap.size, 8, none⟩ = some (.int .i64 x.b.un) ∧ Z.cell? ⟨w.heap.size, 9, none⟩ = some (.int .i64 x.b.lf) ∧ Z.cell? ⟨w.heap.size, 10, none⟩ = some (.int .i64 x.b.pt) ∧ Z.cell? ⟨w.heap.size, 11, none⟩ = some (.bool x.b.sh) ∧ Z.cell? ⟨w.heap.size, 12, none⟩ = some (.int .i64 r)) from fun Z hZ => by
  have q1 := (hZ.block _ hS).trans s1
  have q2 := (hZ.block _ hwn).trans R0.out
  exact ⟨⟨cell_of_row Z _ 0 _ _ _ q1, cell_of_row Z _ 1 _ _ _ q1⟩, ⟨cell_of_row Z _ 0 _ _ _ q2, cell_of_row Z _ 1 _ _ _ q2, cell_of_row Z _ 2 _ _ _ q2, cell_of_row Z _ 3 _ _ _ q2, cell_of_row Z _ 4 _ _ _ q2, cell_of_row Z _ 5 _ _ _ q2, cell_of_row Z _ 6 _ _ _ q2, cell_of_row Z _ 7 _ _ _ q2, cell_of_row Z _ 8 _ _ _ q2, cell_of_row Z _ 9 _ _ _ q2, cell_of_row Z _ 10 _ _ _ q2, cell_of_row Z _ 11 _ _ _ q2, cell_of_row Z _ 12 _ _ _ q2⟩⟩)
 have HLu := hZ9 (show ∀ Z, Below W.heap.size W Z → (Instr.lookup 106 (.map (some M)) (idVal x.b) false).run Tryz.prog Z = .ok (.bool bo) Z from fun Z hZ => by
  obtain ⟨bo2, h1, h2⟩ := (k1.below hZ).look lawD Tryz.underlying106 hlk
  have : bo2 = bo := by rw [Bool.eq_iff_iff, h1, hbo]
  rw [← this]; exact h2)
 have HX := hZ9 s2
 have Hs1 := hZ9 s1
 have Hs3 := hZ9 s3
 have Hs4 := hZ9 s4
 have HLl := hZ9 hl
 have HXl := hZ9 (show X.length ≤ 900000 by rw [← plB_len, s3]; exact hl)
 have hXl := HXl.out
 obtain ⟨la', lc', eX, hX1, hX2⟩ := own_shape s2
 cases eX
 unfold maxLen at hX2
 have HSM := hZ9 (And.intro HSt.out.sm (And.intro HSt.out.sb HSt.out.mb))
 clear hW hw0 h hx hk hbs k1 k2 k3 hlk hbo hlu s1 s2 s3 s4 hl
 go_enter Tryz.func57, Tryz.ntmps57
 go_upto_region 1 with (fail)
 rw [← HW.out]
 refine wp_region_free3 7 (fun w' => Below W.heap.size W w') (adPhi S M w.heap.size x) (by kernel_rfl) (by kernel_rfl) (Below.refl _ _).drew ?_ ?_
 · generalize hfr : (fun v : Nat → Value => _) = fr
   simp only [List.take_succ_cons, List.take_zero, List.map_cons, List.map_nil, putsL, List.setIfInBounds_toArray, List.set_cons_succ, List.set_cons_zero, Nat.zero_add, Nat.reduceAdd] at hfr
   simp only [List.take_succ_cons, List.take_zero, FreeHead]
   refine ⟨?_, ?_, ?_, ?_, ?_, ?_, ?_, trivial⟩
   · intro v w5 hC hd K hK
     rw [← hfr] at hK ⊢
     go_simp
     exact hK _ _ hC (adPhi_stays (Below.refl _ _)) rfl
   · intro v w5 hC hd K hK
     obtain ⟨(e0 : v 0 = _), -⟩ := hd
     rw [← hfr] at hK ⊢
     simp only [e0] at hK ⊢
     go_simp
     exact hK _ _ hC (adPhi_stays (Below.refl _ _)) rfl
   · intro v w5 hC hd K hK
     obtain ⟨(e1 : v 1 = _), -⟩ := hd
     rw [← hfr] at hK ⊢
     simp only [e1] at hK ⊢
     go_simp
     exact hK _ _ hC (adPhi_stays (Below.refl _ _)) rfl
   · intro v w5 hC hd K hK
     obtain ⟨(e2 : v 2 = _), -⟩ := hd
     obtain ⟨⟨p0, p1⟩, ⟨g0, g1, g2, g3, g4, g5, g6, g7, g8, g9, g10, g11, g12⟩⟩ := HAw.out w5 hC
     rw [← hfr] at hK ⊢
     simp only [e2] at hK ⊢
     go_simp
     exact hK _ _ hC (adPhi_stays (Below.refl _ _)) rfl
   · intro v w5 hC hd K hK
     rw [← hfr] at hK ⊢
     go_simp
     exact hK _ _ hC (adPhi_stays (Below.refl _ _)) rfl
   · intro v w5 hC hd K hK
     obtain ⟨(e4 : v 4 = _), -⟩ := hd
     obtain ⟨⟨p0, p1⟩, ⟨g0, g1, g2, g3, g4, g5, g6, g7, g8, g9, g10, g11, g12⟩⟩ := HAw.out w5 hC
     rw [← hfr] at hK ⊢
     simp only [e4] at hK ⊢
     go_simp
     exact hK _ _ hC (adPhi_stays (Below.refl _ _)) rfl
   intro v w5 hC hd K hK
   obtain ⟨(e5 : v 5 = _), -⟩ := hd
   rw [← hfr] at hK ⊢
   simp only [e5] at hK ⊢
   go_simp
   refine (of_calls x w5).mono ?_
   rintro e wc ⟨rfl, hb4⟩
   exact hK _ _ (hC.trans (hb4.mono hC.size)) (adPhi_stays hb4) rfl
 intro v w5 hC hall
 have e3 : v 3 = .map (some M) := hall.1.1.1.2
 have e6 : v 6 = idVal x.b := hall.2
 have hlu := HLu.out w5 hC
 have Hb5 := hZ9 hC
 simp only [List.take_succ_cons, List.take_zero, List.map_cons, List.map_nil, putsL, List.setIfInBounds_toArray, List.set_cons_succ, List.set_cons_zero, Nat.zero_add, Nat.reduceAdd, List.drop_succ_cons, List.drop_zero]
 simp only [e3, e6]
 generalize v 0 = y0, v 1 = y1, v 2 = y2, v 4 = y4, v 5 = y5
 clear e3 e6 hall hC v HLu
 cases hex : bo with
 | true =>
   have HE := hZ9 (HC.out.trans (if_pos (by rw [← Hbo.out, hex])))
   rw [hex] at hlu
   clear hex
   go_wp2
   refine bodyPost_ret (v := .tuple #[]) (by simp [results, Tryz.results57, go_sem]) rfl ?_
   exact ⟨rfl, by rw [HE.out]; exact HSt.out.keep Hb5.out, (Keep2.of_below Hw0.out).trans (Keep2.of_below Hb5.out)⟩
 | false =>
   have HEx := hZ9 (show existsB L x.b = false by rw [← Hbo.out, hex])
   have HE := hZ9 (HC.out.trans (if_neg (by rw [HEx.out]; decide)))
   rw [hex] at hlu
   clear hex
   have HCl := hZ9 (clone_calls x w5 (Hx.out.below Hb5.out))
   obtain ⟨⟨p0, p1⟩, ⟨g0, g1, g2, g3, g4, g5, g6, g7, g8, g9, g10, g11, g12⟩⟩ := HAw.out w5 Hb5.out
   unfold buVal at HCl
   go_wp2_with fail
   refine HCl.out.mono ?_
   rintro e wc ⟨z, rfl, hzb, hzo, hb6⟩
   have Hzb := hZ9 hzb
   unfold buVal
   obtain ⟨V, hV⟩ : ∃ V, V = wc.alloc (Obj.cells #[.int .i64 z.b.ac, .int .i64 z.b.sb, .string z.b.pr, .int .i64 z.b.ix, .int .i64 z.b.kd, .slice z.za z.zn z.zc, .int .i64 z.b.f, .int .i64 z.b.t, .int .i64 z.b.un, .int .i64 z.b.lf, .int .i64 z.b.pt, .bool z.b.sh] 60) := ⟨_, rfl⟩
   have hbV : Below wc.heap.size wc V := by rw [hV]; exact (Below.refl _ _).alloc (Nat.le_refl _) _
   have VN := hZ9 (show V.heap[wc.heap.size]? = some (Obj.cells #[.int .i64 z.b.ac, .int .i64 z.b.sb, .string z.b.pr, .int .i64 z.b.ix, .int .i64 z.b.kd, .slice z.za z.zn z.zc, .int .i64 z.b.f, .int .i64 z.b.t, .int .i64 z.b.un, .int .i64 z.b.lf, .int .i64 z.b.pt, .bool z.b.sh] 60) by rw [hV]; exact heap_alloc_new _ _)
   have hbV2 := Hb5.out.trans ((hb6.trans (hbV.mono hb6.size)).mono Hb5.out.size)
   have HbV := hZ9 hbV2
   have HV := hZ9 hV
   have hW6 : W.heap.size ≤ wc.heap.size := Nat.le_trans Hb5.out.size hb6.size
   have hvn : wc.heap.size < V.heap.size := (ltB9 VN.out)
   have hle6 : w.heap.size ≤ w5.heap.size := by have := Hb5.out.size; omega
   have Hzo := hZ9 ((hzo.below hbV).down (show base ≤ w5.heap.size by have := Hbs.out; omega))
   have hG6 : w.heap.size < wc.heap.size := Nat.lt_of_lt_of_le (Nat.lt_of_lt_of_le hwn Hb5.out.size) hb6.size
   obtain ⟨⟨t0, t1⟩, -⟩ := HAw.out V hbV2
   clear hV hbV hbV2 hb6 hzo hzb p0 p1 g0 g1 g2 g3 g4 g5 g6 g7 g8 g9 g10 g11 g12 hlu
   have HPr := hZ9 (fun (y : BuX) w1 => prec_calls y z w1)
   have HCa := hZ9 (fun (y : BuX) w1 (hb : Below V.heap.size V w1) => carry_calls y z r w1 (Hzo.out.below hb).rd)
   have HBn := hZ9 (show X.find? (fun y : BuX => precB y.b z.b) = none → bornB L (x.b, r) = z.b from fun h => by rw [Hzb.out] at h ⊢; rw [← Hs3.out]; unfold bornB; rw [find_plB, h]; rfl)
   have HBs := hZ9 (show ∀ y, X.find? (fun y : BuX => precB y.b z.b) = some y → bornB L (x.b, r) = carryB y.b z.b r from fun y h => by rw [Hzb.out] at h ⊢; rw [← Hs3.out]; unfold bornB; rw [find_plB, h]; rfl)
   unfold buVal at HPr
   go_upto_region 3 with (fail)
   rw [← HV.out]
   go_wp2_with fail
   clear t0 t1
   go_loopw [25] (fun i wr => ∃ k : Nat, k ≤ X.length ∧ i = .int .i64 k ∧ (X.take k).any (fun y : BuX => precB y.b z.b) = false ∧ Below V.heap.size V wr) (fun i _ => X.length - (intOf i).toNat)
   case atStart => exact ⟨0, Nat.zero_le _, rfl, rfl, Below.refl _ _⟩
   case round =>
    obtain ⟨wo, rfl⟩ : ∃ wo : World, wo = wr := ⟨_, rfl⟩
    obtain ⟨k, hk, rfl, hn, hb⟩ := hrel
    have Hn := hZ9 hn
    have Hb := hZ9 hb
    have hk0 : (0 : Int) ≤ (k : Int) := Int.natCast_nonneg _
    by_cases hlt : k < X.length
    · have hk1 : (k : Int) < (X.length : Int) := by omega
      obtain ⟨a3, c3, e3, -, -, hx⟩ := (RecAt.own (c := buCells) (sz := 12) (fun _ => rfl) (ownsRow_below HX.out (HbV.out.trans (hb.mono HbV.out.size))) : RecAt buCells 12 wo _ X)
      cases e3
      obtain ⟨bb, o, rfl, hB, hx⟩ := hx (by rintro rfl; cases hlt)
      have hx := hx k hlt
      obtain ⟨x0, x1, x2, x3, x4, x5, x6, x7, x8, x9, x10, x11⟩ := bu12 hx
      have HH := hZ9 (fun h2 => find_hit (p := fun y : BuX => precB y.b z.b) hlt Hn.out h2)
      have HT := hZ9 (fun h2 => any_take (p := fun y : BuX => precB y.b z.b) hlt Hn.out h2)
      clear hx hn
      generalize X[k] = y at *
      obtain ⟨Y, hY⟩ : ∃ Y, Y = wo.alloc (Obj.cells #[.int .i64 y.b.ac, .int .i64 y.b.sb, .string y.b.pr, .int .i64 y.b.ix, .int .i64 y.b.kd, .slice y.za y.zn y.zc, .int .i64 y.b.f, .int .i64 y.b.t, .int .i64 y.b.un, .int .i64 y.b.lf, .int .i64 y.b.pt, .bool y.b.sh] 60) := ⟨_, rfl⟩
      have hbY : Below wo.heap.size wo Y := by rw [hY]; exact (Below.refl _ _).alloc (Nat.le_refl _) _
      have YN := hZ9 (show Y.heap[wo.heap.size]? = some (Obj.cells #[.int .i64 y.b.ac, .int .i64 y.b.sb, .string y.b.pr, .int .i64 y.b.ix, .int .i64 y.b.kd, .slice y.za y.zn y.zc, .int .i64 y.b.f, .int .i64 y.b.t, .int .i64 y.b.un, .int .i64 y.b.lf, .int .i64 y.b.pt, .bool y.b.sh] 60) by rw [hY]; exact heap_alloc_new _ _)
      have HbY := hZ9 (hb.trans (hbY.mono hb.size))
      have YV := hZ9 ((HbY.out.block _ hvn).trans VN.out)
      have HY := hZ9 hY
      have hyn : wo.heap.size < Y.heap.size := (ltB9 YN.out)
      have HPy := hZ9 (HPr.out y Y)
      clear hY hbY hb
      go_upto_region 6 with (fail)
      rw [← HY.out]
      clear x0 x1 x2 x3 x4 x5 x6 x7 x8 x9 x10 x11
      have tQ := fun j => cell_of_row Y _ j _ _ _ YN.out
      have y0 := tQ 0
      have y1 := tQ 1
      have y2 := tQ 2
      have y3 := tQ 3
      have y4 := tQ 4
      have y5 := tQ 5
      have y6 := tQ 6
      have y7 := tQ 7
      have y8 := tQ 8
      have y9 := tQ 9
      have y10 := tQ 10
      have y11 := tQ 11
      clear tQ
      have tQ := fun j => cell_of_row Y _ j _ _ _ YV.out
      have u0 := tQ 0
      have u1 := tQ 1
      have u2 := tQ 2
      have u3 := tQ 3
      have u4 := tQ 4
      have u5 := tQ 5
      have u6 := tQ 6
      have u7 := tQ 7
      have u8 := tQ 8
      have u9 := tQ 9
      have u10 := tQ 10
      have u11 := tQ 11
      clear tQ
      go_wp2_with fail
      refine HPy.out.mono ?_
      rintro e w7 ⟨rfl, hb7⟩
      have N7 := hZ9 ((hb7.block _ hyn).trans YN.out)
      have Hb7 := hZ9 (HbY.out.trans (hb7.mono HbY.out.size))
      clear hb7 y0 y1 y2 y3 y4 y5 y6 y7 y8 y9 y10 y11 u0 u1 u2 u3 u4 u5 u6 u7 u8 u9 u10 u11
      cases hp : precB y.b z.b with
      | false =>
        have HE2 := hZ9 (HT.out hp)
        clear hp
        go_wp2
        exact ⟨⟨k + 1, by omega, by go_num, HE2.out, Hb7.out⟩, by simp [intOf]; omega⟩
      | true =>
        have HBe := hZ9 (HBs.out _ (HH.out hp))
        clear hp
        have V7 := hZ9 ((Hb7.out.block _ hvn).trans VN.out)
        have HCy := hZ9 (HCa.out y w7 Hb7.out)
        obtain ⟨-, ⟨-, -, -, -, -, -, -, -, -, -, -, -, gr⟩⟩ := HAw.out w7 (HbV.out.trans (Hb7.out.mono HbV.out.size))
        unfold buVal at HCy
        have tQ := fun j => cell_of_row w7 _ j _ _ _ N7.out
        have y0 := tQ 0
        have y1 := tQ 1
        have y2 := tQ 2
        have y3 := tQ 3
        have y4 := tQ 4
        have y5 := tQ 5
        have y6 := tQ 6
        have y7 := tQ 7
        have y8 := tQ 8
        have y9 := tQ 9
        have y10 := tQ 10
        have y11 := tQ 11
        clear tQ
        have tQ := fun j => cell_of_row w7 _ j _ _ _ V7.out
        have u0 := tQ 0
        have u1 := tQ 1
        have u2 := tQ 2
        have u3 := tQ 3
        have u4 := tQ 4
        have u5 := tQ 5
        have u6 := tQ 6
        have u7 := tQ 7
        have u8 := tQ 8
        have u9 := tQ 9
        have u10 := tQ 10
        have u11 := tQ 11
        clear tQ
        go_wp2_with fail
        refine HCy.out.mono ?_
        rintro e w8 ⟨q, rfl, hqb, hqo, hb8⟩
        have Hqb := hZ9 (hqb.trans HBe.out.symm)
        unfold buVal
        have Hb8 := hZ9 (Hb7.out.trans (hb8.mono Hb7.out.size))
        have V8 := hZ9 ((Hb8.out.block _ hvn).trans VN.out)
        obtain ⟨T, hT⟩ : ∃ T, T = w8.setRow wc.heap.size #[.int .i64 q.b.ac, .int .i64 q.b.sb, .string q.b.pr, .int .i64 q.b.ix, .int .i64 q.b.kd, .slice q.za q.zn q.zc, .int .i64 q.b.f, .int .i64 q.b.t, .int .i64 q.b.un, .int .i64 q.b.lf, .int .i64 q.b.pt, .bool q.b.sh] := ⟨_, rfl⟩
        have TN := hZ9 (show T.heap[wc.heap.size]? = some (Obj.cells #[.int .i64 q.b.ac, .int .i64 q.b.sb, .string q.b.pr, .int .i64 q.b.ix, .int .i64 q.b.kd, .slice q.za q.zn q.zc, .int .i64 q.b.f, .int .i64 q.b.t, .int .i64 q.b.un, .int .i64 q.b.lf, .int .i64 q.b.pt, .bool q.b.sh] 60) by rw [hT]; exact setRow_heap w8 _ _ _ _ _ V8.out)
        have HbT := hZ9 (show Below wc.heap.size V T by rw [hT]; exact below_setRow1 (Hb8.out.mono (Nat.le_of_lt hvn)) (Nat.le_refl _) _)
        have HqT := hZ9 (show BuO base T q by
         have h1 := hqo.down (show base ≤ w7.heap.size by have := Hbs.out; have := Hb7.out.size; have := HbV.out.size; omega)
         refine ⟨?_, h1.sizes, h1.p, h1.len⟩
         rw [hT]
         exact own_setRow1 h1.row (own_other h1.row V8.out (by decide)) _)
        have HT2 := hZ9 hT
        clear hT hqb hqo hb8 gr u0 u1 u2 u3 u4 u5 u6 u7 u8 u9 u10 u11 y0 y1 y2 y3 y4 y5 y6 y7 y8 y9 y10 y11
        dsimp only
        repeat (first | refine wpList_store_row rfl _ _ _ rfl wc.heap.size #[.int .i64 q.b.ac, .int .i64 q.b.sb, .string q.b.pr, .int .i64 q.b.ix, .int .i64 q.b.kd, .slice q.za q.zn q.zc, .int .i64 q.b.f, .int .i64 q.b.t, .int .i64 q.b.un, .int .i64 q.b.lf, .int .i64 q.b.pt, .bool q.b.sh] rfl rfl 60 _ V8.out (by kernel_rfl) rfl (by simp [Value.oneCell']) ?_ | go_step)
        rw [← HT2.out]
        have HbT2 := hZ9 (HbV.out.trans (HbT.out.mono hW6))
        have HqT := HqT
        have hct : wc.heap.size < T.heap.size := (ltB9 TN.out)
        have HEar := hZ9 (fun (y : BuX) w1 => earl_calls y q w1)
        unfold buVal at HEar
        go_wp2_with fail
        go_loopw [7] (fun i wr => ∃ j : Nat, j ≤ X.length ∧ i = .int .i64 j ∧ RowKit.Hid (∀ u (hu : u < X.length), u < j → earlB (X[u]).b q.b = true) ∧ Below T.heap.size T wr) (fun i _ => X.length - (intOf i).toNat)
        case atStart => exact ⟨0, Nat.zero_le _, rfl, hZ9 fun u hu h => by omega, Below.refl _ _⟩
        case round =>
         obtain ⟨wi, rfl⟩ : ∃ wi : World, wi = wr := ⟨_, rfl⟩
         obtain ⟨j, hj, rfl, Hn2, hb2⟩ := hrel
         have Hb := hZ9 hb2
         have hj0 : (0 : Int) ≤ (j : Int) := Int.natCast_nonneg _
         have hWi := HbT2.out.trans (hb2.mono HbT2.out.size)
         have SI := hZ9 ((hWi.block _ hS).trans Hs1.out)
         have CI := hZ9 ((hb2.block _ hct).trans TN.out)
         have hSi := (ltB9 SI.out)
         have hCi := (ltB9 CI.out)
         have ps := fun p : BelowOf wi => BelowOf.cell (a := ⟨S, 0, none⟩) hSi (cell_of_row wi _ 0 _ _ _ SI.out) p
         have s0 := fun p : BelowOf wi => BelowOf.cell (a := ⟨wc.heap.size, 0, none⟩) hCi (cell_of_row wi _ 0 _ _ _ CI.out) p
         have s1 := fun p : BelowOf wi => BelowOf.cell (a := ⟨wc.heap.size, 1, none⟩) hCi (cell_of_row wi _ 1 _ _ _ CI.out) p
         have s2 := fun p : BelowOf wi => BelowOf.cell (a := ⟨wc.heap.size, 2, none⟩) hCi (cell_of_row wi _ 2 _ _ _ CI.out) p
         have s3 := fun p : BelowOf wi => BelowOf.cell (a := ⟨wc.heap.size, 3, none⟩) hCi (cell_of_row wi _ 3 _ _ _ CI.out) p
         have s4 := fun p : BelowOf wi => BelowOf.cell (a := ⟨wc.heap.size, 4, none⟩) hCi (cell_of_row wi _ 4 _ _ _ CI.out) p
         have s5 := fun p : BelowOf wi => BelowOf.cell (a := ⟨wc.heap.size, 5, none⟩) hCi (cell_of_row wi _ 5 _ _ _ CI.out) p
         have s6 := fun p : BelowOf wi => BelowOf.cell (a := ⟨wc.heap.size, 6, none⟩) hCi (cell_of_row wi _ 6 _ _ _ CI.out) p
         have s7 := fun p : BelowOf wi => BelowOf.cell (a := ⟨wc.heap.size, 7, none⟩) hCi (cell_of_row wi _ 7 _ _ _ CI.out) p
         have s8 := fun p : BelowOf wi => BelowOf.cell (a := ⟨wc.heap.size, 8, none⟩) hCi (cell_of_row wi _ 8 _ _ _ CI.out) p
         have s9 := fun p : BelowOf wi => BelowOf.cell (a := ⟨wc.heap.size, 9, none⟩) hCi (cell_of_row wi _ 9 _ _ _ CI.out) p
         have s10 := fun p : BelowOf wi => BelowOf.cell (a := ⟨wc.heap.size, 10, none⟩) hCi (cell_of_row wi _ 10 _ _ _ CI.out) p
         have s11 := fun p : BelowOf wi => BelowOf.cell (a := ⟨wc.heap.size, 11, none⟩) hCi (cell_of_row wi _ 11 _ _ _ CI.out) p
         by_cases hjt : j < X.length
         case' pos =>
          have hj1 : (j : Int) < (X.length : Int) := by omega
          obtain ⟨a3, c3, e3, -, -, hx⟩ := (RecAt.own (c := buCells) (sz := 12) (fun _ => rfl) (ownsRow_below HX.out hWi) : RecAt buCells 12 wi _ X)
          cases e3
          obtain ⟨b2, o2, e4, hB2, hx⟩ := hx (by rintro rfl; cases hjt)
          simp only [Option.some.injEq, Addr.mk.injEq, and_true] at e4
          obtain ⟨e4, e5⟩ := e4
          subst e4
          subst e5
          have hx := hx j hjt
          obtain ⟨qQ0, qQ1, qQ2, qQ3, qQ4, qQ5, qQ6, qQ7, qQ8, qQ9, qQ10, qQ11⟩ := bu12 hx
          have x0 := fun p : BelowOf wi => BelowOf.cell hB2 qQ0 p
          have x1 := fun p : BelowOf wi => BelowOf.cell hB2 qQ1 p
          have x2 := fun p : BelowOf wi => BelowOf.cell hB2 qQ2 p
          have x3 := fun p : BelowOf wi => BelowOf.cell hB2 qQ3 p
          have x4 := fun p : BelowOf wi => BelowOf.cell hB2 qQ4 p
          have x5 := fun p : BelowOf wi => BelowOf.cell hB2 qQ5 p
          have x6 := fun p : BelowOf wi => BelowOf.cell hB2 qQ6 p
          have x7 := fun p : BelowOf wi => BelowOf.cell hB2 qQ7 p
          have x8 := fun p : BelowOf wi => BelowOf.cell hB2 qQ8 p
          have x9 := fun p : BelowOf wi => BelowOf.cell hB2 qQ9 p
          have x10 := fun p : BelowOf wi => BelowOf.cell hB2 qQ10 p
          have x11 := fun p : BelowOf wi => BelowOf.cell hB2 qQ11 p
          clear qQ0 qQ1 qQ2 qQ3 qQ4 qQ5 qQ6 qQ7 qQ8 qQ9 qQ10 qQ11
          have HStep := hZ9 (show earlB (X[j]).b q.b = true → ∀ u (hu : u < X.length), u < j + 1 → earlB (X[u]).b q.b = true from fun h u hu hjk => by
           rcases Nat.lt_or_ge u j with h1 | h1
           · exact Hn2.out u hu h1
           obtain rfl : u = j := by omega
           exact h)
          have HStop := hZ9 (show earlB (X[j]).b q.b = false → kT (fun y : BuX => earlB y.b q.b) X = j from fun h => kT_at hjt (fun u hu => Hn2.out u (by omega) hu) h)
          clear hx hb2 hWi
          have HEa := hZ9 (fun w1 => HEar.out X[j] w1)
          generalize X[j] = yy at *
          cases he : earlB yy.b q.b
          case' true =>
           have HE2 := hZ9 (HStep.out he)
           rw [he] at HEa
           clear he
           go_upto_region 10 with (fail)
           refine wp_region_quiet_below (Below.refl wi.heap.size wi) (by kernel_rfl) (by kernel_rfl) ?_
           repeat (go_big_quiet_step (first | (go_at_call 96; refine calls_below_of (HEa.out _) (fun e w' h => h))))
           refine wpQuiet_nil ?_
           intro wz hw'
           have hYa : Below wi.heap.size wi wz := by obtain ⟨pq, rfl⟩ := hw'; exact pq.h
           have Hbz := hZ9 (Hb.out.trans (hYa.mono Hb.out.size))
           clear hw' hYa ps s0 s1 s2 s3 s4 s5 s6 s7 s8 s9 s10 s11 x0 x1 x2 x3 x4 x5 x6 x7 x8 x9 x10 x11
           go_wp2
           exact ⟨⟨j + 1, by omega, by go_num, HE2, Hbz.out⟩, by simp [intOf]; omega⟩
          case' false =>
           have HK := hZ9 (HStop.out he)
           rw [he] at HEa
           clear he
           go_upto_region 10 with (fail)
           refine wp_region_quiet_below (Below.refl wi.heap.size wi) (by kernel_rfl) (by kernel_rfl) ?_
           repeat (go_big_quiet_step (first | (go_at_call 96; refine calls_below_of (HEa.out _) (fun e w' h => h))))
           refine wpQuiet_nil ?_
           intro wz hw'
           have hYa : Below wi.heap.size wi wz := by obtain ⟨pq, rfl⟩ := hw'; exact pq.h
           have Hbz := hZ9 (Hb.out.trans (hYa.mono Hb.out.size))
           clear ps s0 s1 s2 s3 s4 s5 s6 s7 s8 s9 s10 s11 x0 x1 x2 x3 x4 x5 x6 x7 x8 x9 x10 x11 HStep HStop
         case' neg =>
          have hj1 : ¬ (j : Int) < (X.length : Int) := by omega
          have HK := hZ9 (show kT (fun y : BuX => earlB y.b q.b) X = j from (kT_all (fun u hu => Hn2.out u hu (by omega))).trans (by omega))
          clear hb2 hWi
          go_upto_region 10 with (fail)
          refine wp_region_quiet_below (Below.refl wi.heap.size wi) (by kernel_rfl) (by kernel_rfl) ?_
          repeat (go_big_quiet_step (fail))
          refine wpQuiet_nil ?_
          intro wz hw'
          have hYa : Below wi.heap.size wi wz := by obtain ⟨pq, rfl⟩ := hw'; exact pq.h
          have Hbz := hZ9 (Hb.out.trans (hYa.mono Hb.out.size))
          clear ps s0 s1 s2 s3 s4 s5 s6 s7 s8 s9 s10 s11
         all_goals
          have CZ := hZ9 ((Hbz.out.block _ hct).trans TN.out)
          have SZ := hZ9 (((HbT2.out.trans (Hbz.out.mono HbT2.out.size)).block _ hS).trans Hs1.out)
          have hCz := (ltB9 CZ.out)
          have hSz := (ltB9 SZ.out)
          have HXz := hZ9 (RecAt.own (c := buCells) (sz := 12) (fun _ => rfl) (ownsRow_below HX.out (HbT2.out.trans (Hbz.out.mono HbT2.out.size))) : RecAt buCells 12 wz (.slice (some ⟨bb, o, none⟩) X.length lc) X)
          clear hYa hw'
          go_upto_region 12 with (fail)
          have HTk := hZ9 (sliceAt_take HXz.out (j) hj)
          have HDk := hZ9 (sliceAt_drop HXz.out (j) hj)
          obtain ⟨TK, hTK⟩ : ∃ TK, TK = X.take (j) := ⟨_, rfl⟩
          obtain ⟨DK, hDK⟩ : ∃ DK, DK = X.drop (j) := ⟨_, rfl⟩
          have hTl : TK.length ≤ X.length := by rw [hTK, List.length_take]; omega
          have hTD : TK.length + DK.length = X.length := by rw [hTK, hDK, ← List.length_append, List.take_append_drop]
          have HRes := hZ9 (show TK ++ [q] ++ DK = X.take (j) ++ [q] ++ X.drop (j) by rw [hTK, hDK])
          rw [← hTK] at HTk
          rw [← hDK] at HDk
          have HDe := hZ9 (show ∀ (a' : Option Addr) (n cp : Nat), X.length ≤ j → n = 0 → CapOk a' cp → RecAt buCells 12 wz (.slice a' n cp) DK from fun a' n cp hl hn hc => by
           have e : DK = [] := by rw [hDK]; exact List.drop_eq_nil_of_le hl
           rw [e, hn]
           exact ⟨a', cp, rfl, Nat.zero_le _, hc, fun h => absurd rfl h⟩)
          clear hTK hDK
          have hbY : Below wz.heap.size wz wz := Below.refl _ _
          have HbY := hZ9 hbY
          have Hown0 := hZ9 (show wz.ownsRow wz.heap.size 60 12 (.slice none 0 0) 0 [] from World.ownsRow_nil _ _ _ _)
          have hbs0 := hbY.size
          clear hbY
          have qs := ((Below.refl _ _).block _ hSz).trans SZ.out
          have us := cell_of_row wz _ 0 _ _ _ qs
          have qb := ((Below.refl _ _).block _ hCz).trans CZ.out
          have tQ := fun j => cell_of_row wz _ j _ _ _ qb
          have u0 := tQ 0
          have u1 := tQ 1
          have u2 := tQ 2
          have u3 := tQ 3
          have u4 := tQ 4
          have u5 := tQ 5
          have u6 := tQ 6
          have u7 := tQ 7
          have u8 := tQ 8
          have u9 := tQ 9
          have u10 := tQ 10
          have u11 := tQ 11
          clear tQ
          clear qb qs
          go_wp2_with (at_builtin; refine append_bu rfl _ _ rfl wz.heap.size hbs0 _ _ [] TK rfl rfl Hown0.out (RecAt.below HTk.out HbY.out) (by rw [List.length_nil, Nat.zero_add]; omega) ?_)
          intro P5 hP5 v5 w5 own5 hg5
          obtain rfl : TK = P5 := hP5.out.symm
          clear hP5
          have hb5 := HbY.out.grown hg5 hbs0 (fun g hg => (ownsRow_block Hown0.out g hg).1)
          have Hb5 := hZ9 hb5
          have Own5 := hZ9 own5
          have hbs5 := hb5.size
          obtain ⟨a5, c5, rfl, hc5, hm5⟩ := own_shape own5
          clear own5 hg5 hb5 us u0 u1 u2 u3 u4 u5 u6 u7 u8 u9 u10 u11
          have qs := (Hb5.out.block _ hSz).trans SZ.out
          have us := cell_of_row w5 _ 0 _ _ _ qs
          have qb := (Hb5.out.block _ hCz).trans CZ.out
          have tQ := fun j => cell_of_row w5 _ j _ _ _ qb
          have u0 := tQ 0
          have u1 := tQ 1
          have u2 := tQ 2
          have u3 := tQ 3
          have u4 := tQ 4
          have u5 := tQ 5
          have u6 := tQ 6
          have u7 := tQ 7
          have u8 := tQ 8
          have u9 := tQ 9
          have u10 := tQ 10
          have u11 := tQ 11
          clear tQ
          clear qb qs
          have HX2 := hZ9 (RecAt.one (c := buCells) (sz := 12) w5 (q) 60 #[.int .i64 q.b.ac, .int .i64 q.b.sb, .string q.b.pr, .int .i64 q.b.ix, .int .i64 q.b.kd, .slice q.za q.zn q.zc, .int .i64 q.b.f, .int .i64 q.b.t, .int .i64 q.b.un, .int .i64 q.b.lf, .int .i64 q.b.pt, .bool q.b.sh] rfl)
          go_wp2_with (at_builtin; refine append_bu rfl _ _ rfl wz.heap.size (Nat.le_trans hbs5 (World.le_alloc _ _)) _ _ TK [q] rfl rfl (Own5.out.alloc _) HX2.out (by rw [List.length_singleton]; omega) ?_)
          intro R6 hR6 v6 w6 own6 hg6
          have HR6 := hZ9 hR6.out
          have hR6l : R6.length = TK.length + 1 := by rw [hR6.out, List.length_append]; rfl
          have hb6 := (Hb5.out.alloc hbs5 (Obj.cells #[.int .i64 q.b.ac, .int .i64 q.b.sb, .string q.b.pr, .int .i64 q.b.ix, .int .i64 q.b.kd, .slice q.za q.zn q.zc, .int .i64 q.b.f, .int .i64 q.b.t, .int .i64 q.b.un, .int .i64 q.b.lf, .int .i64 q.b.pt, .bool q.b.sh] 60)).grown hg6 (Nat.le_trans hbs5 (World.le_alloc _ _)) (fun g hg => (ownsRow_block Own5.out g hg).1)
          have Hb6 := hZ9 hb6
          have hbs6 := hb6.size
          obtain ⟨a6, c6, rfl, hc6, hm6⟩ := own_shape own6
          have Own6 := hZ9 own6
          have HR6l := hZ9 hR6l
          have hR6b : R6.length ≤ X.length + 1 := by omega
          have hR6d : R6.length + DK.length ≤ X.length + 1 := by omega
          clear own6 hg6 hb6 hR6 hR6l us u0 u1 u2 u3 u4 u5 u6 u7 u8 u9 u10 u11
          by_cases hcc : lc = j
          case' pos =>
           first
           | (exfalso; omega)
           | (have HDk := hZ9 (show RecAt buCells 12 wz (.slice (some ⟨bb, o, none⟩) (X.length - (j)) 0) DK by
                have h := HDk.out
                rw [if_pos hcc, hcc, Nat.sub_self] at h
                exact h)
              have hcs := hcc.symm
              subst hcs)
          case' neg =>
           have HDk := hZ9 (show RecAt buCells 12 wz (.slice (some ⟨bb, o + (j) * 12, none⟩) (X.length - (j)) (lc - (j))) DK by
            have h := HDk.out
            rw [if_neg hcc, Option.map_some, addr_plus] at h
            exact h)
          all_goals
           have qs := (Hb6.out.block _ hSz).trans SZ.out
           have us := cell_of_row w6 _ 0 _ _ _ qs
           have qb := (Hb6.out.block _ hCz).trans CZ.out
           have tQ := fun j => cell_of_row w6 _ j _ _ _ qb
           have u0 := tQ 0
           have u1 := tQ 1
           have u2 := tQ 2
           have u3 := tQ 3
           have u4 := tQ 4
           have u5 := tQ 5
           have u6 := tQ 6
           have u7 := tQ 7
           have u8 := tQ 8
           have u9 := tQ 9
           have u10 := tQ 10
           have u11 := tQ 11
           clear tQ
           clear qb qs
           go_wp2_with (at_builtin; refine append_bu rfl _ _ rfl wz.heap.size hbs6 _ _ R6 DK rfl rfl Own6.out (by first | exact RecAt.below HDk.out Hb6.out | exact RecAt.below (HDe.out _ _ _ (by omega) (by first | omega | simp | (simp; omega)) ⟨by unfold maxLen; omega, fun h => by first | rfl | (cases h)⟩) Hb6.out) (by omega) ?_)
           intro R hR7 v7 w7 own7 hg7
           have Hb7 := hZ9 (Hb6.out.grown hg7 hbs6 (fun g hg => (ownsRow_block Own6.out g hg).1))
           have HR := hZ9 (show R = X.take (j) ++ [q] ++ X.drop (j) by rw [hR7.out, HR6.out, HRes.out])
           have hRl : R.length ≤ X.length + 1 := by rw [hR7.out, List.length_append]; omega
           have Own7 := hZ9 own7
           obtain ⟨a7, c7, rfl, hc7, hm7⟩ := own_shape own7
           clear own7 hg7 hR7 us u0 u1 u2 u3 u4 u5 u6 u7 u8 u9 u10 u11
           have hbz7 := Hbz.out.trans (Hb7.out.mono Hbz.out.size)
           have HbT7 := hZ9 (HbT2.out.trans (hbz7.mono HbT2.out.size))
           have HF := hZ9 (show R = (insT (fun y : BuX => earlB y.b q.b) q X) by rw [HR.out]; unfold insT; rw [HK.out])
           have S7 := hZ9 ((HbT7.out.block _ hS).trans Hs1.out)
           have C7 := hZ9 ((hbz7.block _ hct).trans TN.out)
           have sc0 := cell_of_row w7 _ 0 _ _ _ S7.out
           have sf0 := frozen_of_row w7 _ 0 _ _ S7.out
           obtain ⟨U, hU⟩ : ∃ U, U = w7.setCell ⟨S, 0, none⟩ (.slice a7 R.length c7) := ⟨_, rfl⟩
           have U0 := hZ9 (show U.heap[S]? = some (Obj.cells #[.slice a7 R.length c7, .map (some M)] 108) by rw [hU]; exact row_set _ S7.out)
           have hCS : wc.heap.size ≠ S := by have := HSM.out.2.1; have := Hbs.out; omega
           have UC := hZ9 (show U.heap[wc.heap.size]? = some (Obj.cells #[.int .i64 q.b.ac, .int .i64 q.b.sb, .string q.b.pr, .int .i64 q.b.ix, .int .i64 q.b.kd, .slice q.za q.zn q.zc, .int .i64 q.b.f, .int .i64 q.b.t, .int .i64 q.b.un, .int .i64 q.b.lf, .int .i64 q.b.pt, .bool q.b.sh] 60) by rw [hU]; exact row_other C7.out hCS)
           have HbW7 := hZ9 (Hw0.out.trans (HbT7.out.mono Hw0.out.size))
           have HKU := hZ9 (show Keep2 S M w U by
            rw [hU]
            exact (Keep2.of_below HbW7.out).trans ⟨rfl, rfl, rfl, by simp, fun k _ h1 _ => Below.heap_setCell _ _ _ _ h1⟩)
           have HRo := hZ9 (show U.ownsRow base 60 12 (.slice a7 R.length c7) R.length (R.flatMap buCells) by
            rw [hU]
            exact own_setCell1 (own_down Own7.out (show base ≤ wz.heap.size by have := Hbs.out; have := Hw0.out.size; have := HbT2.out.size; have := Hbz.out.size; omega)) (own_other Own7.out S7.out (by decide)))
           have HRb := hZ9 (show ∀ y ∈ R, BuO base U y from fun y hy => by
            have h1 : BuO base w7 y := by
             rw [HF.out] at hy
             rcases insT_mem.1 hy with hy | rfl
             · exact (Hs4.out y hy).below HbT7.out
             exact HqT.out.below hbz7
            refine ⟨?_, h1.sizes, h1.p, h1.len⟩
            rw [hU]
            exact own_setCell1 h1.row (own_other h1.row S7.out (by decide)))
           have HMU := hZ9 (show OwnS 111 U M (Kl.map idVal) from (HK1.out.below HbT7.out).keep (by rw [hU]; exact Below.heap_setCell _ _ _ _ (Ne.symm HSM.out.1)))
           have HU := hZ9 hU
           have hSU := (ltB9 U0.out)
           have hCU := (ltB9 UC.out)
           have HAu := hZ9 (fun Z (hZ : Below U.heap.size U Z) => And.intro (show Z.cell? ⟨S, 1, none⟩ = some (.map (some M)) from cell_of_row Z _ 1 _ _ _ ((hZ.block _ hSU).trans U0.out)) (bu_cells (x := q) ((hZ.block _ hCU).trans UC.out)))
           clear hU hbz7 hRl
           go_upto_region 15 with (fail)
           rw [← HU.out]
           clear sc0 sf0
           refine wp_region_free3 6 (fun w' => Below U.heap.size U w') (aePhi S M q) (by kernel_rfl) (by kernel_rfl) (Below.refl _ _).drew ?_ ?_
           · generalize hfr : (fun v : Nat → Value => _) = fr
             simp only [List.take_succ_cons, List.take_zero, List.map_cons, List.map_nil, putsL, List.setIfInBounds_toArray, List.set_cons_succ, List.set_cons_zero, Nat.zero_add, Nat.reduceAdd] at hfr
             simp only [List.take_succ_cons, List.take_zero, FreeHead]
             refine ⟨?_, ?_, ?_, ?_, ?_, ?_, trivial⟩
             · intro v w5 hC hd K hK
               rw [← hfr] at hK ⊢
               go_simp
               exact hK _ _ hC (aePhi_stays (Below.refl _ _)) rfl
             · intro v w5 hC hd K hK
               obtain ⟨(e0 : v 0 = _), -⟩ := hd
               rw [← hfr] at hK ⊢
               simp only [e0] at hK ⊢
               go_simp
               exact hK _ _ hC (aePhi_stays (Below.refl _ _)) rfl
             · intro v w5 hC hd K hK
               obtain ⟨(e1 : v 1 = _), -⟩ := hd
               rw [← hfr] at hK ⊢
               simp only [e1] at hK ⊢
               go_simp
               exact hK _ _ hC (aePhi_stays (Below.refl _ _)) rfl
             · intro v w5 hC hd K hK
               obtain ⟨(e2 : v 2 = _), -⟩ := hd
               obtain ⟨p1, g0, g1, g2, g3, g4, g5, g6, g7, g8, g9, g10, g11⟩ := HAu.out w5 hC
               rw [← hfr] at hK ⊢
               simp only [e2] at hK ⊢
               go_simp
               exact hK _ _ hC (aePhi_stays (Below.refl _ _)) rfl
             · intro v w5 hC hd K hK
               obtain ⟨p1, g0, g1, g2, g3, g4, g5, g6, g7, g8, g9, g10, g11⟩ := HAu.out w5 hC
               rw [← hfr] at hK ⊢
               go_simp
               exact hK _ _ hC (aePhi_stays (Below.refl _ _)) rfl
             intro v w5 hC hd K hK
             obtain ⟨(e4 : v 4 = _), -⟩ := hd
             rw [← hfr] at hK ⊢
             simp only [e4] at hK ⊢
             go_simp
             refine (of_calls q w5).mono ?_
             rintro e wc ⟨rfl, hb4⟩
             exact hK _ _ (hC.trans (hb4.mono hC.size)) (aePhi_stays hb4) rfl
           intro v w8 hC hall
           have e3 : v 3 = .map (some M) := hall.1.1.2
           have e5 : v 5 = idVal q.b := hall.2
           simp only [List.take_succ_cons, List.take_zero, List.map_cons, List.map_nil, putsL, List.setIfInBounds_toArray, List.set_cons_succ, List.set_cons_zero, Nat.zero_add, Nat.reduceAdd, List.drop_succ_cons, List.drop_zero]
           simp only [e3, e5]
           generalize v 0 = y0, v 1 = y1, v 2 = y2, v 4 = y4
           have HM8 := hZ9 (HMU.out.below hC)
           have HR8 := hZ9 (ownsRow_below HRo.out hC)
           have HB8 := hZ9 (show ∀ y ∈ R, BuO base w8 y from fun y hy => (HRb.out y hy).below hC)
           have U8 := hZ9 ((hC.block _ hSU).trans U0.out)
           have HK8 := hZ9 (HKU.out.trans (Keep2.of_below hC))
           have HAl := hZ9 (show AlikeB q.b x.b by rw [Hqb.out]; exact bornB_alike L (x.b, r))
           have HKq := hZ9 (show keyOf Tryz.prog 111 (idVal q.b) = some lk by
            have e : idVal q.b = idVal x.b := idVal_inj.2 (by rw [HAl.out.id1]; exact sameId_refl _)
            rw [e]; exact Hlk.out)
           have HKln := hZ9 (show (Kl.map idVal).length < maxLen by rw [List.length_map]; have := HK3.out; have := HLl.out; unfold maxLen; omega)
           clear e3 e5 hall hC v HAu
           refine wpList_put_set lawD Tryz.underlying106 _ rfl _ _ _ rfl M (Kl.map idVal) rfl HM8.out HKln.out (idVal q.b) lk rfl rfl HKq.out ?_
           intro w9 hm9 hg9
           obtain ⟨es, cc, hmap⟩ := HM8.out.map
           have hno : ∀ {v : Value} {e : TypeId} {b2 sz n : Nat} {xs : List Value}, w8.ownsRow b2 e sz v n xs → v.ownBlock ≠ some M := fun {v e b2 sz n xs} ho hq => by
            rcases ho.2 with ⟨rfl, -⟩ | ⟨g', cap', cur, rfl, -, hh, -⟩
            · cases hq
            simp only [Value.ownBlock, Option.some.injEq] at hq
            subst hq
            rw [hmap] at hh
            cases hh
           have HSt9 := hZ9 (show StBox S M base (insB q.b L) w9 from
            ⟨⟨a7, c7, R, (hg9.block S (ltB9 U8.out) (fun e => HSM.out.1 (Option.some.inj e))).trans U8.out, own_grow HR8.out hg9 (Or.inr (hno HR8.out)), by rw [HF.out, plB_ins, Hs3.out], fun y hy => ⟨own_grow (HB8.out y hy).row hg9 (Or.inr (hno (HB8.out y hy).row)), (HB8.out y hy).sizes, (HB8.out y hy).p, (HB8.out y hy).len⟩⟩,
            ⟨Kl ++ [q.b], by rw [List.map_append]; exact hm9, fun b => by rw [List.any_append, HK2.out, existsB_ins]; simp, by rw [List.length_append, List.length_singleton]; unfold insB; rw [insT_len]; have := HK3.out; omega⟩, HSM.out.1, HSM.out.2.1, HSM.out.2.2⟩)
           have HK9 := hZ9 (HK8.out.trans (Keep2.grown hg9 (fun i hi => Or.inr (Option.some.inj hi).symm)))
           clear hm9 hg9 hmap hno
           go_wp2
           go_end0
           exact ⟨rfl, by rw [HE.out, ← Hqb.out]; exact HSt9.out, HK9.out⟩
    have HBe := hZ9 (HBn.out (find_end (by omega) Hn.out))
    have HbT2 := hZ9 (HbV.out.trans (hb.mono HbV.out.size))
    have TN := hZ9 ((hb.block _ hvn).trans VN.out)
    have HqT := hZ9 (Hzo.out.below hb)
    have Hqb := hZ9 HBe.out.symm
    clear hb hn
    have hct : wc.heap.size < wo.heap.size := (ltB9 TN.out)
    have HEar := hZ9 (fun (y : BuX) w1 => earl_calls y z w1)
    unfold buVal at HEar
    go_wp2_with fail
    go_loopw [7] (fun i wr => ∃ j : Nat, j ≤ X.length ∧ i = .int .i64 j ∧ RowKit.Hid (∀ u (hu : u < X.length), u < j → earlB (X[u]).b z.b = true) ∧ Below wo.heap.size wo wr) (fun i _ => X.length - (intOf i).toNat)
    case atStart => exact ⟨0, Nat.zero_le _, rfl, hZ9 fun u hu h => by omega, Below.refl _ _⟩
    case round =>
     obtain ⟨wi, rfl⟩ : ∃ wi : World, wi = wr := ⟨_, rfl⟩
     obtain ⟨j, hj, rfl, Hn2, hb2⟩ := hrel
     have Hb := hZ9 hb2
     have hj0 : (0 : Int) ≤ (j : Int) := Int.natCast_nonneg _
     have hWi := HbT2.out.trans (hb2.mono HbT2.out.size)
     have SI := hZ9 ((hWi.block _ hS).trans Hs1.out)
     have CI := hZ9 ((hb2.block _ hct).trans TN.out)
     have hSi := (ltB9 SI.out)
     have hCi := (ltB9 CI.out)
     have ps := fun p : BelowOf wi => BelowOf.cell (a := ⟨S, 0, none⟩) hSi (cell_of_row wi _ 0 _ _ _ SI.out) p
     have s0 := fun p : BelowOf wi => BelowOf.cell (a := ⟨wc.heap.size, 0, none⟩) hCi (cell_of_row wi _ 0 _ _ _ CI.out) p
     have s1 := fun p : BelowOf wi => BelowOf.cell (a := ⟨wc.heap.size, 1, none⟩) hCi (cell_of_row wi _ 1 _ _ _ CI.out) p
     have s2 := fun p : BelowOf wi => BelowOf.cell (a := ⟨wc.heap.size, 2, none⟩) hCi (cell_of_row wi _ 2 _ _ _ CI.out) p
     have s3 := fun p : BelowOf wi => BelowOf.cell (a := ⟨wc.heap.size, 3, none⟩) hCi (cell_of_row wi _ 3 _ _ _ CI.out) p
     have s4 := fun p : BelowOf wi => BelowOf.cell (a := ⟨wc.heap.size, 4, none⟩) hCi (cell_of_row wi _ 4 _ _ _ CI.out) p
     have s5 := fun p : BelowOf wi => BelowOf.cell (a := ⟨wc.heap.size, 5, none⟩) hCi (cell_of_row wi _ 5 _ _ _ CI.out) p
     have s6 := fun p : BelowOf wi => BelowOf.cell (a := ⟨wc.heap.size, 6, none⟩) hCi (cell_of_row wi _ 6 _ _ _ CI.out) p
     have s7 := fun p : BelowOf wi => BelowOf.cell (a := ⟨wc.heap.size, 7, none⟩) hCi (cell_of_row wi _ 7 _ _ _ CI.out) p
     have s8 := fun p : BelowOf wi => BelowOf.cell (a := ⟨wc.heap.size, 8, none⟩) hCi (cell_of_row wi _ 8 _ _ _ CI.out) p
     have s9 := fun p : BelowOf wi => BelowOf.cell (a := ⟨wc.heap.size, 9, none⟩) hCi (cell_of_row wi _ 9 _ _ _ CI.out) p
     have s10 := fun p : BelowOf wi => BelowOf.cell (a := ⟨wc.heap.size, 10, none⟩) hCi (cell_of_row wi _ 10 _ _ _ CI.out) p
     have s11 := fun p : BelowOf wi => BelowOf.cell (a := ⟨wc.heap.size, 11, none⟩) hCi (cell_of_row wi _ 11 _ _ _ CI.out) p
     by_cases hjt : j < X.length
     · have hj1 : (j : Int) < (X.length : Int) := by omega
       obtain ⟨a3, c3, e3, -, -, hx⟩ := (RecAt.own (c := buCells) (sz := 12) (fun _ => rfl) (ownsRow_below HX.out hWi) : RecAt buCells 12 wi _ X)
       cases e3
       obtain ⟨b2, o2, rfl, hB2, hx⟩ := hx (by rintro rfl; cases hjt)
       have hx := hx j hjt
       obtain ⟨qQ0, qQ1, qQ2, qQ3, qQ4, qQ5, qQ6, qQ7, qQ8, qQ9, qQ10, qQ11⟩ := bu12 hx
       have x0 := fun p : BelowOf wi => BelowOf.cell hB2 qQ0 p
       have x1 := fun p : BelowOf wi => BelowOf.cell hB2 qQ1 p
       have x2 := fun p : BelowOf wi => BelowOf.cell hB2 qQ2 p
       have x3 := fun p : BelowOf wi => BelowOf.cell hB2 qQ3 p
       have x4 := fun p : BelowOf wi => BelowOf.cell hB2 qQ4 p
       have x5 := fun p : BelowOf wi => BelowOf.cell hB2 qQ5 p
       have x6 := fun p : BelowOf wi => BelowOf.cell hB2 qQ6 p
       have x7 := fun p : BelowOf wi => BelowOf.cell hB2 qQ7 p
       have x8 := fun p : BelowOf wi => BelowOf.cell hB2 qQ8 p
       have x9 := fun p : BelowOf wi => BelowOf.cell hB2 qQ9 p
       have x10 := fun p : BelowOf wi => BelowOf.cell hB2 qQ10 p
       have x11 := fun p : BelowOf wi => BelowOf.cell hB2 qQ11 p
       clear qQ0 qQ1 qQ2 qQ3 qQ4 qQ5 qQ6 qQ7 qQ8 qQ9 qQ10 qQ11
       have HStep := hZ9 (show earlB (X[j]).b z.b = true → ∀ u (hu : u < X.length), u < j + 1 → earlB (X[u]).b z.b = true from fun h u hu hjk => by
        rcases Nat.lt_or_ge u j with h1 | h1
        · exact Hn2.out u hu h1
        obtain rfl : u = j := by omega
        exact h)
       have HStop := hZ9 (show earlB (X[j]).b z.b = false → kT (fun y : BuX => earlB y.b z.b) X = j from fun h => kT_at hjt (fun u hu => Hn2.out u (by omega) hu) h)
       clear hx hb2 hWi
       have HEa := hZ9 (fun w1 => HEar.out X[j] w1)
       generalize X[j] = yy at *
       cases he : earlB yy.b z.b with
       | true =>
         have HE3 := hZ9 (HStep.out he)
         rw [he] at HEa
         clear he
         go_upto_region 10 with (fail)
         refine wp_region_quiet_below (Below.refl wi.heap.size wi) (by kernel_rfl) (by kernel_rfl) ?_
         repeat (go_big_quiet_step (first | (go_at_call 96; refine calls_below_of (HEa.out _) (fun e w' h => h))))
         refine wpQuiet_nil ?_
         intro wz hw'
         have hYa : Below wi.heap.size wi wz := by obtain ⟨pq, rfl⟩ := hw'; exact pq.h
         have Hbz := hZ9 (Hb.out.trans (hYa.mono Hb.out.size))
         clear hw' hYa ps s0 s1 s2 s3 s4 s5 s6 s7 s8 s9 s10 s11 x0 x1 x2 x3 x4 x5 x6 x7 x8 x9 x10 x11
         go_wp2
         exact ⟨⟨j + 1, by omega, by go_num, HE3, Hbz.out⟩, by simp [intOf]; omega⟩
       | false =>
         have HK := hZ9 (HStop.out he)
         rw [he] at HEa
         clear he
         go_upto_region 10 with (fail)
         refine wp_region_quiet_below (Below.refl wi.heap.size wi) (by kernel_rfl) (by kernel_rfl) ?_
         repeat (go_big_quiet_step (first | (go_at_call 96; refine calls_below_of (HEa.out _) (fun e w' h => h))))
         refine wpQuiet_nil ?_
         intro wz hw'
         have hYa : Below wi.heap.size wi wz := by obtain ⟨pq, rfl⟩ := hw'; exact pq.h
         have Hbz := hZ9 (Hb.out.trans (hYa.mono Hb.out.size))
         clear ps s0 s1 s2 s3 s4 s5 s6 s7 s8 s9 s10 s11 x0 x1 x2 x3 x4 x5 x6 x7 x8 x9 x10 x11 HStep HStop
         have CZ := hZ9 ((Hbz.out.block _ hct).trans TN.out)
         have SZ := hZ9 (((HbT2.out.trans (Hbz.out.mono HbT2.out.size)).block _ hS).trans Hs1.out)
         have hCz := (ltB9 CZ.out)
         have hSz := (ltB9 SZ.out)
         have HXz := hZ9 (RecAt.own (c := buCells) (sz := 12) (fun _ => rfl) (ownsRow_below HX.out (HbT2.out.trans (Hbz.out.mono HbT2.out.size))) : RecAt buCells 12 wz (.slice (some ⟨b2, o2, none⟩) X.length lc) X)
         clear hYa hw'
         go_upto_region 12 with (fail)
         have HTk := hZ9 (sliceAt_take HXz.out (j) (Nat.le_of_lt hjt))
         have HDk := hZ9 (sliceAt_drop HXz.out (j) (Nat.le_of_lt hjt))
         obtain ⟨TK, hTK⟩ : ∃ TK, TK = X.take (j) := ⟨_, rfl⟩
         obtain ⟨DK, hDK⟩ : ∃ DK, DK = X.drop (j) := ⟨_, rfl⟩
         have hTl : TK.length ≤ X.length := by rw [hTK, List.length_take]; omega
         have hTD : TK.length + DK.length = X.length := by rw [hTK, hDK, ← List.length_append, List.take_append_drop]
         have HRes := hZ9 (show TK ++ [z] ++ DK = X.take (j) ++ [z] ++ X.drop (j) by rw [hTK, hDK])
         rw [← hTK] at HTk
         rw [← hDK] at HDk
         clear hTK hDK
         have hbY : Below wz.heap.size wz wz := Below.refl _ _
         have HbY := hZ9 hbY
         have Hown0 := hZ9 (show wz.ownsRow wz.heap.size 60 12 (.slice none 0 0) 0 [] from World.ownsRow_nil _ _ _ _)
         have hbs0 := hbY.size
         clear hbY
         have qs := ((Below.refl _ _).block _ hSz).trans SZ.out
         have us := cell_of_row wz _ 0 _ _ _ qs
         have qb := ((Below.refl _ _).block _ hCz).trans CZ.out
         have tQ := fun j => cell_of_row wz _ j _ _ _ qb
         have u0 := tQ 0
         have u1 := tQ 1
         have u2 := tQ 2
         have u3 := tQ 3
         have u4 := tQ 4
         have u5 := tQ 5
         have u6 := tQ 6
         have u7 := tQ 7
         have u8 := tQ 8
         have u9 := tQ 9
         have u10 := tQ 10
         have u11 := tQ 11
         clear tQ
         clear qb qs
         go_wp2_with (at_builtin; refine append_bu rfl _ _ rfl wz.heap.size hbs0 _ _ [] TK rfl rfl Hown0.out (RecAt.below HTk.out HbY.out) (by rw [List.length_nil, Nat.zero_add]; omega) ?_)
         intro P5 hP5 v5 w5 own5 hg5
         obtain rfl : TK = P5 := hP5.out.symm
         clear hP5
         have hb5 := HbY.out.grown hg5 hbs0 (fun g hg => (ownsRow_block Hown0.out g hg).1)
         have Hb5 := hZ9 hb5
         have Own5 := hZ9 own5
         have hbs5 := hb5.size
         obtain ⟨a5, c5, rfl, hc5, hm5⟩ := own_shape own5
         clear own5 hg5 hb5 us u0 u1 u2 u3 u4 u5 u6 u7 u8 u9 u10 u11
         have qs := (Hb5.out.block _ hSz).trans SZ.out
         have us := cell_of_row w5 _ 0 _ _ _ qs
         have qb := (Hb5.out.block _ hCz).trans CZ.out
         have tQ := fun j => cell_of_row w5 _ j _ _ _ qb
         have u0 := tQ 0
         have u1 := tQ 1
         have u2 := tQ 2
         have u3 := tQ 3
         have u4 := tQ 4
         have u5 := tQ 5
         have u6 := tQ 6
         have u7 := tQ 7
         have u8 := tQ 8
         have u9 := tQ 9
         have u10 := tQ 10
         have u11 := tQ 11
         clear tQ
         clear qb qs
         have HX2 := hZ9 (RecAt.one (c := buCells) (sz := 12) w5 (z) 60 #[.int .i64 z.b.ac, .int .i64 z.b.sb, .string z.b.pr, .int .i64 z.b.ix, .int .i64 z.b.kd, .slice z.za z.zn z.zc, .int .i64 z.b.f, .int .i64 z.b.t, .int .i64 z.b.un, .int .i64 z.b.lf, .int .i64 z.b.pt, .bool z.b.sh] rfl)
         go_wp2_with (at_builtin; refine append_bu rfl _ _ rfl wz.heap.size (Nat.le_trans hbs5 (World.le_alloc _ _)) _ _ TK [z] rfl rfl (Own5.out.alloc _) HX2.out (by rw [List.length_singleton]; omega) ?_)
         intro R6 hR6 v6 w6 own6 hg6
         have HR6 := hZ9 hR6.out
         have hR6l : R6.length = TK.length + 1 := by rw [hR6.out, List.length_append]; rfl
         have hb6 := (Hb5.out.alloc hbs5 (Obj.cells #[.int .i64 z.b.ac, .int .i64 z.b.sb, .string z.b.pr, .int .i64 z.b.ix, .int .i64 z.b.kd, .slice z.za z.zn z.zc, .int .i64 z.b.f, .int .i64 z.b.t, .int .i64 z.b.un, .int .i64 z.b.lf, .int .i64 z.b.pt, .bool z.b.sh] 60)).grown hg6 (Nat.le_trans hbs5 (World.le_alloc _ _)) (fun g hg => (ownsRow_block Own5.out g hg).1)
         have Hb6 := hZ9 hb6
         have hbs6 := hb6.size
         obtain ⟨a6, c6, rfl, hc6, hm6⟩ := own_shape own6
         have Own6 := hZ9 own6
         have HR6l := hZ9 hR6l
         have hR6b : R6.length ≤ X.length + 1 := by omega
         have hR6d : R6.length + DK.length ≤ X.length + 1 := by omega
         clear own6 hg6 hb6 hR6 hR6l us u0 u1 u2 u3 u4 u5 u6 u7 u8 u9 u10 u11
         by_cases hcc : lc = j
         · exfalso; omega
         have HDk := hZ9 (show RecAt buCells 12 wz (.slice (some ⟨b2, o2 + (j) * 12, none⟩) (X.length - (j)) (lc - (j))) DK by
          have h := HDk.out
          rw [if_neg hcc, Option.map_some, addr_plus] at h
          exact h)
         have qs := (Hb6.out.block _ hSz).trans SZ.out
         have us := cell_of_row w6 _ 0 _ _ _ qs
         have qb := (Hb6.out.block _ hCz).trans CZ.out
         have tQ := fun j => cell_of_row w6 _ j _ _ _ qb
         have u0 := tQ 0
         have u1 := tQ 1
         have u2 := tQ 2
         have u3 := tQ 3
         have u4 := tQ 4
         have u5 := tQ 5
         have u6 := tQ 6
         have u7 := tQ 7
         have u8 := tQ 8
         have u9 := tQ 9
         have u10 := tQ 10
         have u11 := tQ 11
         clear tQ
         clear qb qs
         go_wp2_with (at_builtin; refine append_bu rfl _ _ rfl wz.heap.size hbs6 _ _ R6 DK rfl rfl Own6.out (RecAt.below HDk.out Hb6.out) (by omega) ?_)
         intro R hR7 v7 w7 own7 hg7
         have Hb7 := hZ9 (Hb6.out.grown hg7 hbs6 (fun g hg => (ownsRow_block Own6.out g hg).1))
         have HR := hZ9 (show R = X.take (j) ++ [z] ++ X.drop (j) by rw [hR7.out, HR6.out, HRes.out])
         have hRl : R.length ≤ X.length + 1 := by rw [hR7.out, List.length_append]; omega
         have Own7 := hZ9 own7
         obtain ⟨a7, c7, rfl, hc7, hm7⟩ := own_shape own7
         clear own7 hg7 hR7 us u0 u1 u2 u3 u4 u5 u6 u7 u8 u9 u10 u11
         have hbz7 := Hbz.out.trans (Hb7.out.mono Hbz.out.size)
         have HbT7 := hZ9 (HbT2.out.trans (hbz7.mono HbT2.out.size))
         have HF := hZ9 (show R = (insT (fun y : BuX => earlB y.b z.b) z X) by rw [HR.out]; unfold insT; rw [HK.out])
         have S7 := hZ9 ((HbT7.out.block _ hS).trans Hs1.out)
         have C7 := hZ9 ((hbz7.block _ hct).trans TN.out)
         have sc0 := cell_of_row w7 _ 0 _ _ _ S7.out
         have sf0 := frozen_of_row w7 _ 0 _ _ S7.out
         obtain ⟨U, hU⟩ : ∃ U, U = w7.setCell ⟨S, 0, none⟩ (.slice a7 R.length c7) := ⟨_, rfl⟩
         have U0 := hZ9 (show U.heap[S]? = some (Obj.cells #[.slice a7 R.length c7, .map (some M)] 108) by rw [hU]; exact row_set _ S7.out)
         have hCS : wc.heap.size ≠ S := by have := HSM.out.2.1; have := Hbs.out; omega
         have UC := hZ9 (show U.heap[wc.heap.size]? = some (Obj.cells #[.int .i64 z.b.ac, .int .i64 z.b.sb, .string z.b.pr, .int .i64 z.b.ix, .int .i64 z.b.kd, .slice z.za z.zn z.zc, .int .i64 z.b.f, .int .i64 z.b.t, .int .i64 z.b.un, .int .i64 z.b.lf, .int .i64 z.b.pt, .bool z.b.sh] 60) by rw [hU]; exact row_other C7.out hCS)
         have HbW7 := hZ9 (Hw0.out.trans (HbT7.out.mono Hw0.out.size))
         have HKU := hZ9 (show Keep2 S M w U by
          rw [hU]
          exact (Keep2.of_below HbW7.out).trans ⟨rfl, rfl, rfl, by simp, fun k _ h1 _ => Below.heap_setCell _ _ _ _ h1⟩)
         have HRo := hZ9 (show U.ownsRow base 60 12 (.slice a7 R.length c7) R.length (R.flatMap buCells) by
          rw [hU]
          exact own_setCell1 (own_down Own7.out (show base ≤ wz.heap.size by have := Hbs.out; have := Hw0.out.size; have := HbT2.out.size; have := Hbz.out.size; omega)) (own_other Own7.out S7.out (by decide)))
         have HRb := hZ9 (show ∀ y ∈ R, BuO base U y from fun y hy => by
          have h1 : BuO base w7 y := by
           rw [HF.out] at hy
           rcases insT_mem.1 hy with hy | rfl
           · exact (Hs4.out y hy).below HbT7.out
           exact HqT.out.below hbz7
          refine ⟨?_, h1.sizes, h1.p, h1.len⟩
          rw [hU]
          exact own_setCell1 h1.row (own_other h1.row S7.out (by decide)))
         have HMU := hZ9 (show OwnS 111 U M (Kl.map idVal) from (HK1.out.below HbT7.out).keep (by rw [hU]; exact Below.heap_setCell _ _ _ _ (Ne.symm HSM.out.1)))
         have HU := hZ9 hU
         have hSU := (ltB9 U0.out)
         have hCU := (ltB9 UC.out)
         have HAu := hZ9 (fun Z (hZ : Below U.heap.size U Z) => And.intro (show Z.cell? ⟨S, 1, none⟩ = some (.map (some M)) from cell_of_row Z _ 1 _ _ _ ((hZ.block _ hSU).trans U0.out)) (bu_cells (x := z) ((hZ.block _ hCU).trans UC.out)))
         clear hU hbz7 hRl
         go_upto_region 15 with (fail)
         rw [← HU.out]
         clear sc0 sf0
         refine wp_region_free3 6 (fun w' => Below U.heap.size U w') (aePhi S M z) (by kernel_rfl) (by kernel_rfl) (Below.refl _ _).drew ?_ ?_
         · generalize hfr : (fun v : Nat → Value => _) = fr
           simp only [List.take_succ_cons, List.take_zero, List.map_cons, List.map_nil, putsL, List.setIfInBounds_toArray, List.set_cons_succ, List.set_cons_zero, Nat.zero_add, Nat.reduceAdd] at hfr
           simp only [List.take_succ_cons, List.take_zero, FreeHead]
           refine ⟨?_, ?_, ?_, ?_, ?_, ?_, trivial⟩
           · intro v w5 hC hd K hK
             rw [← hfr] at hK ⊢
             go_simp
             exact hK _ _ hC (aePhi_stays (Below.refl _ _)) rfl
           · intro v w5 hC hd K hK
             obtain ⟨(e0 : v 0 = _), -⟩ := hd
             rw [← hfr] at hK ⊢
             simp only [e0] at hK ⊢
             go_simp
             exact hK _ _ hC (aePhi_stays (Below.refl _ _)) rfl
           · intro v w5 hC hd K hK
             obtain ⟨(e1 : v 1 = _), -⟩ := hd
             rw [← hfr] at hK ⊢
             simp only [e1] at hK ⊢
             go_simp
             exact hK _ _ hC (aePhi_stays (Below.refl _ _)) rfl
           · intro v w5 hC hd K hK
             obtain ⟨(e2 : v 2 = _), -⟩ := hd
             obtain ⟨p1, g0, g1, g2, g3, g4, g5, g6, g7, g8, g9, g10, g11⟩ := HAu.out w5 hC
             rw [← hfr] at hK ⊢
             simp only [e2] at hK ⊢
             go_simp
             exact hK _ _ hC (aePhi_stays (Below.refl _ _)) rfl
           · intro v w5 hC hd K hK
             obtain ⟨p1, g0, g1, g2, g3, g4, g5, g6, g7, g8, g9, g10, g11⟩ := HAu.out w5 hC
             rw [← hfr] at hK ⊢
             go_simp
             exact hK _ _ hC (aePhi_stays (Below.refl _ _)) rfl
           intro v w5 hC hd K hK
           obtain ⟨(e4 : v 4 = _), -⟩ := hd
           rw [← hfr] at hK ⊢
           simp only [e4] at hK ⊢
           go_simp
           refine (of_calls z w5).mono ?_
           rintro e wc ⟨rfl, hb4⟩
           exact hK _ _ (hC.trans (hb4.mono hC.size)) (aePhi_stays hb4) rfl
         intro v w8 hC hall
         have e3 : v 3 = .map (some M) := hall.1.1.2
         have e5 : v 5 = idVal z.b := hall.2
         simp only [List.take_succ_cons, List.take_zero, List.map_cons, List.map_nil, putsL, List.setIfInBounds_toArray, List.set_cons_succ, List.set_cons_zero, Nat.zero_add, Nat.reduceAdd, List.drop_succ_cons, List.drop_zero]
         simp only [e3, e5]
         generalize v 0 = y0, v 1 = y1, v 2 = y2, v 4 = y4
         have HM8 := hZ9 (HMU.out.below hC)
         have HR8 := hZ9 (ownsRow_below HRo.out hC)
         have HB8 := hZ9 (show ∀ y ∈ R, BuO base w8 y from fun y hy => (HRb.out y hy).below hC)
         have U8 := hZ9 ((hC.block _ hSU).trans U0.out)
         have HK8 := hZ9 (HKU.out.trans (Keep2.of_below hC))
         have HAl := hZ9 (show AlikeB z.b x.b by rw [Hqb.out]; exact bornB_alike L (x.b, r))
         have HKq := hZ9 (show keyOf Tryz.prog 111 (idVal z.b) = some lk by
          have e : idVal z.b = idVal x.b := idVal_inj.2 (by rw [HAl.out.id1]; exact sameId_refl _)
          rw [e]; exact Hlk.out)
         have HKln := hZ9 (show (Kl.map idVal).length < maxLen by rw [List.length_map]; have := HK3.out; have := HLl.out; unfold maxLen; omega)
         clear e3 e5 hall hC v HAu
         refine wpList_put_set lawD Tryz.underlying106 _ rfl _ _ _ rfl M (Kl.map idVal) rfl HM8.out HKln.out (idVal z.b) lk rfl rfl HKq.out ?_
         intro w9 hm9 hg9
         obtain ⟨es, cc, hmap⟩ := HM8.out.map
         have hno : ∀ {v : Value} {e : TypeId} {b2 sz n : Nat} {xs : List Value}, w8.ownsRow b2 e sz v n xs → v.ownBlock ≠ some M := fun {v e b2 sz n xs} ho hq => by
          rcases ho.2 with ⟨rfl, -⟩ | ⟨g', cap', cur, rfl, -, hh, -⟩
          · cases hq
          simp only [Value.ownBlock, Option.some.injEq] at hq
          subst hq
          rw [hmap] at hh
          cases hh
         have HSt9 := hZ9 (show StBox S M base (insB z.b L) w9 from
          ⟨⟨a7, c7, R, (hg9.block S (ltB9 U8.out) (fun e => HSM.out.1 (Option.some.inj e))).trans U8.out, own_grow HR8.out hg9 (Or.inr (hno HR8.out)), by rw [HF.out, plB_ins, Hs3.out], fun y hy => ⟨own_grow (HB8.out y hy).row hg9 (Or.inr (hno (HB8.out y hy).row)), (HB8.out y hy).sizes, (HB8.out y hy).p, (HB8.out y hy).len⟩⟩,
          ⟨Kl ++ [z.b], by rw [List.map_append]; exact hm9, fun b => by rw [List.any_append, HK2.out, existsB_ins]; simp, by rw [List.length_append, List.length_singleton]; unfold insB; rw [insT_len]; have := HK3.out; omega⟩, HSM.out.1, HSM.out.2.1, HSM.out.2.2⟩)
         have HK9 := hZ9 (HK8.out.trans (Keep2.grown hg9 (fun i hi => Or.inr (Option.some.inj hi).symm)))
         clear hm9 hg9 hmap hno
         go_wp2
         go_end0
         exact ⟨rfl, by rw [HE.out, ← Hqb.out]; exact HSt9.out, HK9.out⟩
     have hj1 : ¬ (j : Int) < (X.length : Int) := by omega
     have HK := hZ9 (show kT (fun y : BuX => earlB y.b z.b) X = j from (kT_all (fun u hu => Hn2.out u hu (by omega))).trans (by omega))
     clear hb2 hWi
     go_upto_region 10 with (fail)
     refine wp_region_quiet_below (Below.refl wi.heap.size wi) (by kernel_rfl) (by kernel_rfl) ?_
     repeat (go_big_quiet_step (fail))
     refine wpQuiet_nil ?_
     intro wz hw'
     have hYa : Below wi.heap.size wi wz := by obtain ⟨pq, rfl⟩ := hw'; exact pq.h
     have Hbz := hZ9 (Hb.out.trans (hYa.mono Hb.out.size))
     clear ps s0 s1 s2 s3 s4 s5 s6 s7 s8 s9 s10 s11
     cases la with
     | none =>
       have hX0 : X.length = 0 ∧ lc = 0 := by
        obtain ⟨a3, c3, e3, -, hm3, -⟩ := (RecAt.own (c := buCells) (sz := 12) (fun _ => rfl) HX.out : RecAt buCells 12 _ _ X)
        cases e3
        have := hm3.2 rfl
        omega
       obtain ⟨hX0, rfl⟩ := hX0
       obtain rfl : j = 0 := by omega
       have CZ := hZ9 ((Hbz.out.block _ hct).trans TN.out)
       have SZ := hZ9 (((HbT2.out.trans (Hbz.out.mono HbT2.out.size)).block _ hS).trans Hs1.out)
       have hCz := (ltB9 CZ.out)
       have hSz := (ltB9 SZ.out)
       have HXz := hZ9 (RecAt.own (c := buCells) (sz := 12) (fun _ => rfl) (ownsRow_below HX.out (HbT2.out.trans (Hbz.out.mono HbT2.out.size))) : RecAt buCells 12 wz (.slice none X.length 0) X)
       clear hYa hw'
       go_upto_region 12 with (fail)
       have HTk := hZ9 (sliceAt_take HXz.out (0) (Nat.zero_le _))
       have HDk := hZ9 (sliceAt_drop HXz.out (0) (Nat.zero_le _))
       obtain ⟨TK, hTK⟩ : ∃ TK, TK = X.take (0) := ⟨_, rfl⟩
       obtain ⟨DK, hDK⟩ : ∃ DK, DK = X.drop (0) := ⟨_, rfl⟩
       have hTl : TK.length ≤ X.length := by rw [hTK, List.length_take]; omega
       have hTD : TK.length + DK.length = X.length := by rw [hTK, hDK, ← List.length_append, List.take_append_drop]
       have HRes := hZ9 (show TK ++ [z] ++ DK = X.take (0) ++ [z] ++ X.drop (0) by rw [hTK, hDK])
       rw [← hTK] at HTk
       rw [← hDK] at HDk
       have HDe := hZ9 (show ∀ (a' : Option Addr) (n cp : Nat), n = 0 → CapOk a' cp → RecAt buCells 12 wz (.slice a' n cp) DK from fun a' n cp hn hc => by
        have e : DK = [] := by rw [hDK]; exact List.drop_eq_nil_of_le (by omega)
        rw [e, hn]
        exact ⟨a', cp, rfl, Nat.zero_le _, hc, fun h => absurd rfl h⟩)
       clear hTK hDK HDk
       have hbY : Below wz.heap.size wz wz := Below.refl _ _
       have HbY := hZ9 hbY
       have Hown0 := hZ9 (show wz.ownsRow wz.heap.size 60 12 (.slice none 0 0) 0 [] from World.ownsRow_nil _ _ _ _)
       have hbs0 := hbY.size
       clear hbY
       have qs := ((Below.refl _ _).block _ hSz).trans SZ.out
       have us := cell_of_row wz _ 0 _ _ _ qs
       have qb := ((Below.refl _ _).block _ hCz).trans CZ.out
       have tQ := fun j => cell_of_row wz _ j _ _ _ qb
       have u0 := tQ 0
       have u1 := tQ 1
       have u2 := tQ 2
       have u3 := tQ 3
       have u4 := tQ 4
       have u5 := tQ 5
       have u6 := tQ 6
       have u7 := tQ 7
       have u8 := tQ 8
       have u9 := tQ 9
       have u10 := tQ 10
       have u11 := tQ 11
       clear tQ
       clear qb qs
       go_wp2_with (at_builtin; refine append_bu rfl _ _ rfl wz.heap.size hbs0 _ _ [] TK rfl rfl Hown0.out (RecAt.below HTk.out HbY.out) (by rw [List.length_nil, Nat.zero_add]; omega) ?_)
       intro P5 hP5 v5 w5 own5 hg5
       obtain rfl : TK = P5 := hP5.out.symm
       clear hP5
       have hb5 := HbY.out.grown hg5 hbs0 (fun g hg => (ownsRow_block Hown0.out g hg).1)
       have Hb5 := hZ9 hb5
       have Own5 := hZ9 own5
       have hbs5 := hb5.size
       obtain ⟨a5, c5, rfl, hc5, hm5⟩ := own_shape own5
       clear own5 hg5 hb5 us u0 u1 u2 u3 u4 u5 u6 u7 u8 u9 u10 u11
       have qs := (Hb5.out.block _ hSz).trans SZ.out
       have us := cell_of_row w5 _ 0 _ _ _ qs
       have qb := (Hb5.out.block _ hCz).trans CZ.out
       have tQ := fun j => cell_of_row w5 _ j _ _ _ qb
       have u0 := tQ 0
       have u1 := tQ 1
       have u2 := tQ 2
       have u3 := tQ 3
       have u4 := tQ 4
       have u5 := tQ 5
       have u6 := tQ 6
       have u7 := tQ 7
       have u8 := tQ 8
       have u9 := tQ 9
       have u10 := tQ 10
       have u11 := tQ 11
       clear tQ
       clear qb qs
       have HX2 := hZ9 (RecAt.one (c := buCells) (sz := 12) w5 (z) 60 #[.int .i64 z.b.ac, .int .i64 z.b.sb, .string z.b.pr, .int .i64 z.b.ix, .int .i64 z.b.kd, .slice z.za z.zn z.zc, .int .i64 z.b.f, .int .i64 z.b.t, .int .i64 z.b.un, .int .i64 z.b.lf, .int .i64 z.b.pt, .bool z.b.sh] rfl)
       go_wp2_with (at_builtin; refine append_bu rfl _ _ rfl wz.heap.size (Nat.le_trans hbs5 (World.le_alloc _ _)) _ _ TK [z] rfl rfl (Own5.out.alloc _) HX2.out (by rw [List.length_singleton]; omega) ?_)
       intro R6 hR6 v6 w6 own6 hg6
       have HR6 := hZ9 hR6.out
       have hR6l : R6.length = TK.length + 1 := by rw [hR6.out, List.length_append]; rfl
       have hb6 := (Hb5.out.alloc hbs5 (Obj.cells #[.int .i64 z.b.ac, .int .i64 z.b.sb, .string z.b.pr, .int .i64 z.b.ix, .int .i64 z.b.kd, .slice z.za z.zn z.zc, .int .i64 z.b.f, .int .i64 z.b.t, .int .i64 z.b.un, .int .i64 z.b.lf, .int .i64 z.b.pt, .bool z.b.sh] 60)).grown hg6 (Nat.le_trans hbs5 (World.le_alloc _ _)) (fun g hg => (ownsRow_block Own5.out g hg).1)
       have Hb6 := hZ9 hb6
       have hbs6 := hb6.size
       obtain ⟨a6, c6, rfl, hc6, hm6⟩ := own_shape own6
       have Own6 := hZ9 own6
       have HR6l := hZ9 hR6l
       have hR6b : R6.length ≤ X.length + 1 := by omega
       have hR6d : R6.length + DK.length ≤ X.length + 1 := by omega
       clear own6 hg6 hb6 hR6 hR6l us u0 u1 u2 u3 u4 u5 u6 u7 u8 u9 u10 u11
       have qs := (Hb6.out.block _ hSz).trans SZ.out
       have us := cell_of_row w6 _ 0 _ _ _ qs
       have qb := (Hb6.out.block _ hCz).trans CZ.out
       have tQ := fun j => cell_of_row w6 _ j _ _ _ qb
       have u0 := tQ 0
       have u1 := tQ 1
       have u2 := tQ 2
       have u3 := tQ 3
       have u4 := tQ 4
       have u5 := tQ 5
       have u6 := tQ 6
       have u7 := tQ 7
       have u8 := tQ 8
       have u9 := tQ 9
       have u10 := tQ 10
       have u11 := tQ 11
       clear tQ
       clear qb qs
       go_wp2_with (at_builtin; refine append_bu rfl _ _ rfl wz.heap.size hbs6 _ _ R6 DK rfl rfl Own6.out (RecAt.below (HDe.out _ _ _ (by first | omega | simp | (simp; omega)) ⟨by unfold maxLen; omega, fun h => by first | rfl | (cases h)⟩) Hb6.out) (by omega) ?_)
       intro R hR7 v7 w7 own7 hg7
       have Hb7 := hZ9 (Hb6.out.grown hg7 hbs6 (fun g hg => (ownsRow_block Own6.out g hg).1))
       have HR := hZ9 (show R = X.take (0) ++ [z] ++ X.drop (0) by rw [hR7.out, HR6.out, HRes.out])
       have hRl : R.length ≤ X.length + 1 := by rw [hR7.out, List.length_append]; omega
       have Own7 := hZ9 own7
       obtain ⟨a7, c7, rfl, hc7, hm7⟩ := own_shape own7
       clear own7 hg7 hR7 us u0 u1 u2 u3 u4 u5 u6 u7 u8 u9 u10 u11
       have hbz7 := Hbz.out.trans (Hb7.out.mono Hbz.out.size)
       have HbT7 := hZ9 (HbT2.out.trans (hbz7.mono HbT2.out.size))
       have HF := hZ9 (show R = (insT (fun y : BuX => earlB y.b z.b) z X) by rw [HR.out]; unfold insT; rw [HK.out])
       have S7 := hZ9 ((HbT7.out.block _ hS).trans Hs1.out)
       have C7 := hZ9 ((hbz7.block _ hct).trans TN.out)
       have sc0 := cell_of_row w7 _ 0 _ _ _ S7.out
       have sf0 := frozen_of_row w7 _ 0 _ _ S7.out
       obtain ⟨U, hU⟩ : ∃ U, U = w7.setCell ⟨S, 0, none⟩ (.slice a7 R.length c7) := ⟨_, rfl⟩
       have U0 := hZ9 (show U.heap[S]? = some (Obj.cells #[.slice a7 R.length c7, .map (some M)] 108) by rw [hU]; exact row_set _ S7.out)
       have hCS : wc.heap.size ≠ S := by have := HSM.out.2.1; have := Hbs.out; omega
       have UC := hZ9 (show U.heap[wc.heap.size]? = some (Obj.cells #[.int .i64 z.b.ac, .int .i64 z.b.sb, .string z.b.pr, .int .i64 z.b.ix, .int .i64 z.b.kd, .slice z.za z.zn z.zc, .int .i64 z.b.f, .int .i64 z.b.t, .int .i64 z.b.un, .int .i64 z.b.lf, .int .i64 z.b.pt, .bool z.b.sh] 60) by rw [hU]; exact row_other C7.out hCS)
       have HbW7 := hZ9 (Hw0.out.trans (HbT7.out.mono Hw0.out.size))
       have HKU := hZ9 (show Keep2 S M w U by
        rw [hU]
        exact (Keep2.of_below HbW7.out).trans ⟨rfl, rfl, rfl, by simp, fun k _ h1 _ => Below.heap_setCell _ _ _ _ h1⟩)
       have HRo := hZ9 (show U.ownsRow base 60 12 (.slice a7 R.length c7) R.length (R.flatMap buCells) by
        rw [hU]
        exact own_setCell1 (own_down Own7.out (show base ≤ wz.heap.size by have := Hbs.out; have := Hw0.out.size; have := HbT2.out.size; have := Hbz.out.size; omega)) (own_other Own7.out S7.out (by decide)))
       have HRb := hZ9 (show ∀ y ∈ R, BuO base U y from fun y hy => by
        have h1 : BuO base w7 y := by
         rw [HF.out] at hy
         rcases insT_mem.1 hy with hy | rfl
         · exact (Hs4.out y hy).below HbT7.out
         exact HqT.out.below hbz7
        refine ⟨?_, h1.sizes, h1.p, h1.len⟩
        rw [hU]
        exact own_setCell1 h1.row (own_other h1.row S7.out (by decide)))
       have HMU := hZ9 (show OwnS 111 U M (Kl.map idVal) from (HK1.out.below HbT7.out).keep (by rw [hU]; exact Below.heap_setCell _ _ _ _ (Ne.symm HSM.out.1)))
       have HU := hZ9 hU
       have hSU := (ltB9 U0.out)
       have hCU := (ltB9 UC.out)
       have HAu := hZ9 (fun Z (hZ : Below U.heap.size U Z) => And.intro (show Z.cell? ⟨S, 1, none⟩ = some (.map (some M)) from cell_of_row Z _ 1 _ _ _ ((hZ.block _ hSU).trans U0.out)) (bu_cells (x := z) ((hZ.block _ hCU).trans UC.out)))
       clear hU hbz7 hRl
       go_upto_region 15 with (fail)
       rw [← HU.out]
       clear sc0 sf0
       refine wp_region_free3 6 (fun w' => Below U.heap.size U w') (aePhi S M z) (by kernel_rfl) (by kernel_rfl) (Below.refl _ _).drew ?_ ?_
       · generalize hfr : (fun v : Nat → Value => _) = fr
         simp only [List.take_succ_cons, List.take_zero, List.map_cons, List.map_nil, putsL, List.setIfInBounds_toArray, List.set_cons_succ, List.set_cons_zero, Nat.zero_add, Nat.reduceAdd] at hfr
         simp only [List.take_succ_cons, List.take_zero, FreeHead]
         refine ⟨?_, ?_, ?_, ?_, ?_, ?_, trivial⟩
         · intro v w5 hC hd K hK
           rw [← hfr] at hK ⊢
           go_simp
           exact hK _ _ hC (aePhi_stays (Below.refl _ _)) rfl
         · intro v w5 hC hd K hK
           obtain ⟨(e0 : v 0 = _), -⟩ := hd
           rw [← hfr] at hK ⊢
           simp only [e0] at hK ⊢
           go_simp
           exact hK _ _ hC (aePhi_stays (Below.refl _ _)) rfl
         · intro v w5 hC hd K hK
           obtain ⟨(e1 : v 1 = _), -⟩ := hd
           rw [← hfr] at hK ⊢
           simp only [e1] at hK ⊢
           go_simp
           exact hK _ _ hC (aePhi_stays (Below.refl _ _)) rfl
         · intro v w5 hC hd K hK
           obtain ⟨(e2 : v 2 = _), -⟩ := hd
           obtain ⟨p1, g0, g1, g2, g3, g4, g5, g6, g7, g8, g9, g10, g11⟩ := HAu.out w5 hC
           rw [← hfr] at hK ⊢
           simp only [e2] at hK ⊢
           go_simp
           exact hK _ _ hC (aePhi_stays (Below.refl _ _)) rfl
         · intro v w5 hC hd K hK
           obtain ⟨p1, g0, g1, g2, g3, g4, g5, g6, g7, g8, g9, g10, g11⟩ := HAu.out w5 hC
           rw [← hfr] at hK ⊢
           go_simp
           exact hK _ _ hC (aePhi_stays (Below.refl _ _)) rfl
         intro v w5 hC hd K hK
         obtain ⟨(e4 : v 4 = _), -⟩ := hd
         rw [← hfr] at hK ⊢
         simp only [e4] at hK ⊢
         go_simp
         refine (of_calls z w5).mono ?_
         rintro e wc ⟨rfl, hb4⟩
         exact hK _ _ (hC.trans (hb4.mono hC.size)) (aePhi_stays hb4) rfl
       intro v w8 hC hall
       have e3 : v 3 = .map (some M) := hall.1.1.2
       have e5 : v 5 = idVal z.b := hall.2
       simp only [List.take_succ_cons, List.take_zero, List.map_cons, List.map_nil, putsL, List.setIfInBounds_toArray, List.set_cons_succ, List.set_cons_zero, Nat.zero_add, Nat.reduceAdd, List.drop_succ_cons, List.drop_zero]
       simp only [e3, e5]
       generalize v 0 = y0, v 1 = y1, v 2 = y2, v 4 = y4
       have HM8 := hZ9 (HMU.out.below hC)
       have HR8 := hZ9 (ownsRow_below HRo.out hC)
       have HB8 := hZ9 (show ∀ y ∈ R, BuO base w8 y from fun y hy => (HRb.out y hy).below hC)
       have U8 := hZ9 ((hC.block _ hSU).trans U0.out)
       have HK8 := hZ9 (HKU.out.trans (Keep2.of_below hC))
       have HAl := hZ9 (show AlikeB z.b x.b by rw [Hqb.out]; exact bornB_alike L (x.b, r))
       have HKq := hZ9 (show keyOf Tryz.prog 111 (idVal z.b) = some lk by
        have e : idVal z.b = idVal x.b := idVal_inj.2 (by rw [HAl.out.id1]; exact sameId_refl _)
        rw [e]; exact Hlk.out)
       have HKln := hZ9 (show (Kl.map idVal).length < maxLen by rw [List.length_map]; have := HK3.out; have := HLl.out; unfold maxLen; omega)
       clear e3 e5 hall hC v HAu
       refine wpList_put_set lawD Tryz.underlying106 _ rfl _ _ _ rfl M (Kl.map idVal) rfl HM8.out HKln.out (idVal z.b) lk rfl rfl HKq.out ?_
       intro w9 hm9 hg9
       obtain ⟨es, cc, hmap⟩ := HM8.out.map
       have hno : ∀ {v : Value} {e : TypeId} {b2 sz n : Nat} {xs : List Value}, w8.ownsRow b2 e sz v n xs → v.ownBlock ≠ some M := fun {v e b2 sz n xs} ho hq => by
        rcases ho.2 with ⟨rfl, -⟩ | ⟨g', cap', cur, rfl, -, hh, -⟩
        · cases hq
        simp only [Value.ownBlock, Option.some.injEq] at hq
        subst hq
        rw [hmap] at hh
        cases hh
       have HSt9 := hZ9 (show StBox S M base (insB z.b L) w9 from
        ⟨⟨a7, c7, R, (hg9.block S (ltB9 U8.out) (fun e => HSM.out.1 (Option.some.inj e))).trans U8.out, own_grow HR8.out hg9 (Or.inr (hno HR8.out)), by rw [HF.out, plB_ins, Hs3.out], fun y hy => ⟨own_grow (HB8.out y hy).row hg9 (Or.inr (hno (HB8.out y hy).row)), (HB8.out y hy).sizes, (HB8.out y hy).p, (HB8.out y hy).len⟩⟩,
        ⟨Kl ++ [z.b], by rw [List.map_append]; exact hm9, fun b => by rw [List.any_append, HK2.out, existsB_ins]; simp, by rw [List.length_append, List.length_singleton]; unfold insB; rw [insT_len]; have := HK3.out; omega⟩, HSM.out.1, HSM.out.2.1, HSM.out.2.2⟩)
       have HK9 := hZ9 (HK8.out.trans (Keep2.grown hg9 (fun i hi => Or.inr (Option.some.inj hi).symm)))
       clear hm9 hg9 hmap hno
       go_wp2
       go_end0
       exact ⟨rfl, by rw [HE.out, ← Hqb.out]; exact HSt9.out, HK9.out⟩
     | some ad =>
       have CZ := hZ9 ((Hbz.out.block _ hct).trans TN.out)
       have SZ := hZ9 (((HbT2.out.trans (Hbz.out.mono HbT2.out.size)).block _ hS).trans Hs1.out)
       have hCz := (ltB9 CZ.out)
       have hSz := (ltB9 SZ.out)
       have HXz := hZ9 (RecAt.own (c := buCells) (sz := 12) (fun _ => rfl) (ownsRow_below HX.out (HbT2.out.trans (Hbz.out.mono HbT2.out.size))) : RecAt buCells 12 wz (.slice (some ad) X.length lc) X)
       clear hYa hw'
       go_upto_region 12 with (fail)
       have HTk := hZ9 (sliceAt_take HXz.out (j) hj)
       have HDk := hZ9 (sliceAt_drop HXz.out (j) hj)
       obtain ⟨TK, hTK⟩ : ∃ TK, TK = X.take (j) := ⟨_, rfl⟩
       obtain ⟨DK, hDK⟩ : ∃ DK, DK = X.drop (j) := ⟨_, rfl⟩
       have hTl : TK.length ≤ X.length := by rw [hTK, List.length_take]; omega
       have hTD : TK.length + DK.length = X.length := by rw [hTK, hDK, ← List.length_append, List.take_append_drop]
       have HRes := hZ9 (show TK ++ [z] ++ DK = X.take (j) ++ [z] ++ X.drop (j) by rw [hTK, hDK])
       rw [← hTK] at HTk
       rw [← hDK] at HDk
       have HDe := hZ9 (show ∀ (a' : Option Addr) (n cp : Nat), n = 0 → CapOk a' cp → RecAt buCells 12 wz (.slice a' n cp) DK from fun a' n cp hn hc => by
        have e : DK = [] := by rw [hDK]; exact List.drop_eq_nil_of_le (by omega)
        rw [e, hn]
        exact ⟨a', cp, rfl, Nat.zero_le _, hc, fun h => absurd rfl h⟩)
       clear hTK hDK HDk
       have hbY : Below wz.heap.size wz wz := Below.refl _ _
       have HbY := hZ9 hbY
       have Hown0 := hZ9 (show wz.ownsRow wz.heap.size 60 12 (.slice none 0 0) 0 [] from World.ownsRow_nil _ _ _ _)
       have hbs0 := hbY.size
       clear hbY
       have qs := ((Below.refl _ _).block _ hSz).trans SZ.out
       have us := cell_of_row wz _ 0 _ _ _ qs
       have qb := ((Below.refl _ _).block _ hCz).trans CZ.out
       have tQ := fun j => cell_of_row wz _ j _ _ _ qb
       have u0 := tQ 0
       have u1 := tQ 1
       have u2 := tQ 2
       have u3 := tQ 3
       have u4 := tQ 4
       have u5 := tQ 5
       have u6 := tQ 6
       have u7 := tQ 7
       have u8 := tQ 8
       have u9 := tQ 9
       have u10 := tQ 10
       have u11 := tQ 11
       clear tQ
       clear qb qs
       go_wp2_with (at_builtin; refine append_bu rfl _ _ rfl wz.heap.size hbs0 _ _ [] TK rfl rfl Hown0.out (RecAt.below HTk.out HbY.out) (by rw [List.length_nil, Nat.zero_add]; omega) ?_)
       intro P5 hP5 v5 w5 own5 hg5
       obtain rfl : TK = P5 := hP5.out.symm
       clear hP5
       have hb5 := HbY.out.grown hg5 hbs0 (fun g hg => (ownsRow_block Hown0.out g hg).1)
       have Hb5 := hZ9 hb5
       have Own5 := hZ9 own5
       have hbs5 := hb5.size
       obtain ⟨a5, c5, rfl, hc5, hm5⟩ := own_shape own5
       clear own5 hg5 hb5 us u0 u1 u2 u3 u4 u5 u6 u7 u8 u9 u10 u11
       have qs := (Hb5.out.block _ hSz).trans SZ.out
       have us := cell_of_row w5 _ 0 _ _ _ qs
       have qb := (Hb5.out.block _ hCz).trans CZ.out
       have tQ := fun j => cell_of_row w5 _ j _ _ _ qb
       have u0 := tQ 0
       have u1 := tQ 1
       have u2 := tQ 2
       have u3 := tQ 3
       have u4 := tQ 4
       have u5 := tQ 5
       have u6 := tQ 6
       have u7 := tQ 7
       have u8 := tQ 8
       have u9 := tQ 9
       have u10 := tQ 10
       have u11 := tQ 11
       clear tQ
       clear qb qs
       have HX2 := hZ9 (RecAt.one (c := buCells) (sz := 12) w5 (z) 60 #[.int .i64 z.b.ac, .int .i64 z.b.sb, .string z.b.pr, .int .i64 z.b.ix, .int .i64 z.b.kd, .slice z.za z.zn z.zc, .int .i64 z.b.f, .int .i64 z.b.t, .int .i64 z.b.un, .int .i64 z.b.lf, .int .i64 z.b.pt, .bool z.b.sh] rfl)
       go_wp2_with (at_builtin; refine append_bu rfl _ _ rfl wz.heap.size (Nat.le_trans hbs5 (World.le_alloc _ _)) _ _ TK [z] rfl rfl (Own5.out.alloc _) HX2.out (by rw [List.length_singleton]; omega) ?_)
       intro R6 hR6 v6 w6 own6 hg6
       have HR6 := hZ9 hR6.out
       have hR6l : R6.length = TK.length + 1 := by rw [hR6.out, List.length_append]; rfl
       have hb6 := (Hb5.out.alloc hbs5 (Obj.cells #[.int .i64 z.b.ac, .int .i64 z.b.sb, .string z.b.pr, .int .i64 z.b.ix, .int .i64 z.b.kd, .slice z.za z.zn z.zc, .int .i64 z.b.f, .int .i64 z.b.t, .int .i64 z.b.un, .int .i64 z.b.lf, .int .i64 z.b.pt, .bool z.b.sh] 60)).grown hg6 (Nat.le_trans hbs5 (World.le_alloc _ _)) (fun g hg => (ownsRow_block Own5.out g hg).1)
       have Hb6 := hZ9 hb6
       have hbs6 := hb6.size
       obtain ⟨a6, c6, rfl, hc6, hm6⟩ := own_shape own6
       have Own6 := hZ9 own6
       have HR6l := hZ9 hR6l
       have hR6b : R6.length ≤ X.length + 1 := by omega
       have hR6d : R6.length + DK.length ≤ X.length + 1 := by omega
       clear own6 hg6 hb6 hR6 hR6l us u0 u1 u2 u3 u4 u5 u6 u7 u8 u9 u10 u11
       by_cases hcc : lc = j
       case' pos =>
        have hcs := hcc.symm
        subst hcs
       all_goals
        have qs := (Hb6.out.block _ hSz).trans SZ.out
        have us := cell_of_row w6 _ 0 _ _ _ qs
        have qb := (Hb6.out.block _ hCz).trans CZ.out
        have tQ := fun j => cell_of_row w6 _ j _ _ _ qb
        have u0 := tQ 0
        have u1 := tQ 1
        have u2 := tQ 2
        have u3 := tQ 3
        have u4 := tQ 4
        have u5 := tQ 5
        have u6 := tQ 6
        have u7 := tQ 7
        have u8 := tQ 8
        have u9 := tQ 9
        have u10 := tQ 10
        have u11 := tQ 11
        clear tQ
        clear qb qs
        go_wp2_with (at_builtin; refine append_bu rfl _ _ rfl wz.heap.size hbs6 _ _ R6 DK rfl rfl Own6.out (RecAt.below (HDe.out _ _ _ (by first | omega | simp | (simp; omega)) ⟨by unfold maxLen; omega, fun h => by first | rfl | (cases h)⟩) Hb6.out) (by omega) ?_)
        intro R hR7 v7 w7 own7 hg7
        have Hb7 := hZ9 (Hb6.out.grown hg7 hbs6 (fun g hg => (ownsRow_block Own6.out g hg).1))
        have HR := hZ9 (show R = X.take (j) ++ [z] ++ X.drop (j) by rw [hR7.out, HR6.out, HRes.out])
        have hRl : R.length ≤ X.length + 1 := by rw [hR7.out, List.length_append]; omega
        have Own7 := hZ9 own7
        obtain ⟨a7, c7, rfl, hc7, hm7⟩ := own_shape own7
        clear own7 hg7 hR7 us u0 u1 u2 u3 u4 u5 u6 u7 u8 u9 u10 u11
        have hbz7 := Hbz.out.trans (Hb7.out.mono Hbz.out.size)
        have HbT7 := hZ9 (HbT2.out.trans (hbz7.mono HbT2.out.size))
        have HF := hZ9 (show R = (insT (fun y : BuX => earlB y.b z.b) z X) by rw [HR.out]; unfold insT; rw [HK.out])
        have S7 := hZ9 ((HbT7.out.block _ hS).trans Hs1.out)
        have C7 := hZ9 ((hbz7.block _ hct).trans TN.out)
        have sc0 := cell_of_row w7 _ 0 _ _ _ S7.out
        have sf0 := frozen_of_row w7 _ 0 _ _ S7.out
        obtain ⟨U, hU⟩ : ∃ U, U = w7.setCell ⟨S, 0, none⟩ (.slice a7 R.length c7) := ⟨_, rfl⟩
        have U0 := hZ9 (show U.heap[S]? = some (Obj.cells #[.slice a7 R.length c7, .map (some M)] 108) by rw [hU]; exact row_set _ S7.out)
        have hCS : wc.heap.size ≠ S := by have := HSM.out.2.1; have := Hbs.out; omega
        have UC := hZ9 (show U.heap[wc.heap.size]? = some (Obj.cells #[.int .i64 z.b.ac, .int .i64 z.b.sb, .string z.b.pr, .int .i64 z.b.ix, .int .i64 z.b.kd, .slice z.za z.zn z.zc, .int .i64 z.b.f, .int .i64 z.b.t, .int .i64 z.b.un, .int .i64 z.b.lf, .int .i64 z.b.pt, .bool z.b.sh] 60) by rw [hU]; exact row_other C7.out hCS)
        have HbW7 := hZ9 (Hw0.out.trans (HbT7.out.mono Hw0.out.size))
        have HKU := hZ9 (show Keep2 S M w U by
         rw [hU]
         exact (Keep2.of_below HbW7.out).trans ⟨rfl, rfl, rfl, by simp, fun k _ h1 _ => Below.heap_setCell _ _ _ _ h1⟩)
        have HRo := hZ9 (show U.ownsRow base 60 12 (.slice a7 R.length c7) R.length (R.flatMap buCells) by
         rw [hU]
         exact own_setCell1 (own_down Own7.out (show base ≤ wz.heap.size by have := Hbs.out; have := Hw0.out.size; have := HbT2.out.size; have := Hbz.out.size; omega)) (own_other Own7.out S7.out (by decide)))
        have HRb := hZ9 (show ∀ y ∈ R, BuO base U y from fun y hy => by
         have h1 : BuO base w7 y := by
          rw [HF.out] at hy
          rcases insT_mem.1 hy with hy | rfl
          · exact (Hs4.out y hy).below HbT7.out
          exact HqT.out.below hbz7
         refine ⟨?_, h1.sizes, h1.p, h1.len⟩
         rw [hU]
         exact own_setCell1 h1.row (own_other h1.row S7.out (by decide)))
        have HMU := hZ9 (show OwnS 111 U M (Kl.map idVal) from (HK1.out.below HbT7.out).keep (by rw [hU]; exact Below.heap_setCell _ _ _ _ (Ne.symm HSM.out.1)))
        have HU := hZ9 hU
        have hSU := (ltB9 U0.out)
        have hCU := (ltB9 UC.out)
        have HAu := hZ9 (fun Z (hZ : Below U.heap.size U Z) => And.intro (show Z.cell? ⟨S, 1, none⟩ = some (.map (some M)) from cell_of_row Z _ 1 _ _ _ ((hZ.block _ hSU).trans U0.out)) (bu_cells (x := z) ((hZ.block _ hCU).trans UC.out)))
        clear hU hbz7 hRl
        go_upto_region 15 with (fail)
        rw [← HU.out]
        clear sc0 sf0
        refine wp_region_free3 6 (fun w' => Below U.heap.size U w') (aePhi S M z) (by kernel_rfl) (by kernel_rfl) (Below.refl _ _).drew ?_ ?_
        · generalize hfr : (fun v : Nat → Value => _) = fr
          simp only [List.take_succ_cons, List.take_zero, List.map_cons, List.map_nil, putsL, List.setIfInBounds_toArray, List.set_cons_succ, List.set_cons_zero, Nat.zero_add, Nat.reduceAdd] at hfr
          simp only [List.take_succ_cons, List.take_zero, FreeHead]
          refine ⟨?_, ?_, ?_, ?_, ?_, ?_, trivial⟩
          · intro v w5 hC hd K hK
            rw [← hfr] at hK ⊢
            go_simp
            exact hK _ _ hC (aePhi_stays (Below.refl _ _)) rfl
          · intro v w5 hC hd K hK
            obtain ⟨(e0 : v 0 = _), -⟩ := hd
            rw [← hfr] at hK ⊢
            simp only [e0] at hK ⊢
            go_simp
            exact hK _ _ hC (aePhi_stays (Below.refl _ _)) rfl
          · intro v w5 hC hd K hK
            obtain ⟨(e1 : v 1 = _), -⟩ := hd
            rw [← hfr] at hK ⊢
            simp only [e1] at hK ⊢
            go_simp
            exact hK _ _ hC (aePhi_stays (Below.refl _ _)) rfl
          · intro v w5 hC hd K hK
            obtain ⟨(e2 : v 2 = _), -⟩ := hd
            obtain ⟨p1, g0, g1, g2, g3, g4, g5, g6, g7, g8, g9, g10, g11⟩ := HAu.out w5 hC
            rw [← hfr] at hK ⊢
            simp only [e2] at hK ⊢
            go_simp
            exact hK _ _ hC (aePhi_stays (Below.refl _ _)) rfl
          · intro v w5 hC hd K hK
            obtain ⟨p1, g0, g1, g2, g3, g4, g5, g6, g7, g8, g9, g10, g11⟩ := HAu.out w5 hC
            rw [← hfr] at hK ⊢
            go_simp
            exact hK _ _ hC (aePhi_stays (Below.refl _ _)) rfl
          intro v w5 hC hd K hK
          obtain ⟨(e4 : v 4 = _), -⟩ := hd
          rw [← hfr] at hK ⊢
          simp only [e4] at hK ⊢
          go_simp
          refine (of_calls z w5).mono ?_
          rintro e wc ⟨rfl, hb4⟩
          exact hK _ _ (hC.trans (hb4.mono hC.size)) (aePhi_stays hb4) rfl
        intro v w8 hC hall
        have e3 : v 3 = .map (some M) := hall.1.1.2
        have e5 : v 5 = idVal z.b := hall.2
        simp only [List.take_succ_cons, List.take_zero, List.map_cons, List.map_nil, putsL, List.setIfInBounds_toArray, List.set_cons_succ, List.set_cons_zero, Nat.zero_add, Nat.reduceAdd, List.drop_succ_cons, List.drop_zero]
        simp only [e3, e5]
        generalize v 0 = y0, v 1 = y1, v 2 = y2, v 4 = y4
        have HM8 := hZ9 (HMU.out.below hC)
        have HR8 := hZ9 (ownsRow_below HRo.out hC)
        have HB8 := hZ9 (show ∀ y ∈ R, BuO base w8 y from fun y hy => (HRb.out y hy).below hC)
        have U8 := hZ9 ((hC.block _ hSU).trans U0.out)
        have HK8 := hZ9 (HKU.out.trans (Keep2.of_below hC))
        have HAl := hZ9 (show AlikeB z.b x.b by rw [Hqb.out]; exact bornB_alike L (x.b, r))
        have HKq := hZ9 (show keyOf Tryz.prog 111 (idVal z.b) = some lk by
         have e : idVal z.b = idVal x.b := idVal_inj.2 (by rw [HAl.out.id1]; exact sameId_refl _)
         rw [e]; exact Hlk.out)
        have HKln := hZ9 (show (Kl.map idVal).length < maxLen by rw [List.length_map]; have := HK3.out; have := HLl.out; unfold maxLen; omega)
        clear e3 e5 hall hC v HAu
        refine wpList_put_set lawD Tryz.underlying106 _ rfl _ _ _ rfl M (Kl.map idVal) rfl HM8.out HKln.out (idVal z.b) lk rfl rfl HKq.out ?_
        intro w9 hm9 hg9
        obtain ⟨es, cc, hmap⟩ := HM8.out.map
        have hno : ∀ {v : Value} {e : TypeId} {b2 sz n : Nat} {xs : List Value}, w8.ownsRow b2 e sz v n xs → v.ownBlock ≠ some M := fun {v e b2 sz n xs} ho hq => by
         rcases ho.2 with ⟨rfl, -⟩ | ⟨g', cap', cur, rfl, -, hh, -⟩
         · cases hq
         simp only [Value.ownBlock, Option.some.injEq] at hq
         subst hq
         rw [hmap] at hh
         cases hh
        have HSt9 := hZ9 (show StBox S M base (insB z.b L) w9 from
         ⟨⟨a7, c7, R, (hg9.block S (ltB9 U8.out) (fun e => HSM.out.1 (Option.some.inj e))).trans U8.out, own_grow HR8.out hg9 (Or.inr (hno HR8.out)), by rw [HF.out, plB_ins, Hs3.out], fun y hy => ⟨own_grow (HB8.out y hy).row hg9 (Or.inr (hno (HB8.out y hy).row)), (HB8.out y hy).sizes, (HB8.out y hy).p, (HB8.out y hy).len⟩⟩,
         ⟨Kl ++ [z.b], by rw [List.map_append]; exact hm9, fun b => by rw [List.any_append, HK2.out, existsB_ins]; simp, by rw [List.length_append, List.length_singleton]; unfold insB; rw [insT_len]; have := HK3.out; omega⟩, HSM.out.1, HSM.out.2.1, HSM.out.2.2⟩)
        have HK9 := hZ9 (HK8.out.trans (Keep2.grown hg9 (fun i hi => Or.inr (Option.some.inj hi).symm)))
        clear hm9 hg9 hmap hno
        go_wp2
        go_end0
        exact ⟨rfl, by rw [HE.out, ← Hqb.out]; exact HSt9.out, HK9.out⟩
end Go.Proofs.YtngippiilgdnoaaGreat
