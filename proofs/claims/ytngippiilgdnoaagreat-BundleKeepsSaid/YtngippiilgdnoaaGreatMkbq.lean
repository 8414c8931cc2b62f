/-
  The walk of the program's holdings.
-/
import Derived.Test.YtngippiilgdnoaaGreatMkbp
import Derived.Carry
set_option maxRecDepth 100000
set_option maxHeartbeats 25600000
namespace Go.Proofs.YtngippiilgdnoaaGreat
open Go.RowKit Go.Maps
section
variable {P : Program} (w : World)
theorem run_eqIn_map_nil (d : Nat) (t k e : TypeId) (p : Option Nat) (h : P.underlying t = some (.map k e)) : (Op.equalIn (d + 1) t (.map p) (.map none)).run P w = .ok p.isNone w := by
 cases p <;> simp [Op.equalIn, run_underlying h]
theorem run_eq_map_nil (t k e : TypeId) (p : Option Nat) (h : P.underlying t = some (.map k e)) : (binOp .eql t (.map p) (.map none)).run P w = .ok (.bool p.isNone) w := by
 simp only [binOp]
 simp [show Op.equal t (.map p) (.map none) = Op.equalIn (9999 + 1) t (.map p) (.map none) from rfl, run_eqIn_map_nil w 9999 t k e p h]
end
def hoVal (ac : Int) (x : HoX) : Value := .agg #[.int .i64 ac, .int .i64 x.h.1, .string x.h.2, .slice x.pa x.pn x.pc]
theorem sooner_calls (ac : Int) (x y : HoX) (w : World) : Calls Tryz.prog 89 #[hoVal ac x, hoVal ac y] w fun e w' => e = .returned (.bool (hadLtB x.h y.h)) ∧ Below w.heap.size w w' := by
 obtain ⟨W, hW, r0, r1, hw0, hz⟩ := two_rows2 w (Obj.cells #[.int .i64 ac, .int .i64 x.h.1, .string x.h.2, .slice x.pa x.pn x.pc] 118) (Obj.cells #[.int .i64 ac, .int .i64 y.h.1, .string y.h.2, .slice y.pa y.pn y.pc] 118)
 have HW := hZ9 hW
 have Hb := hZ9 hw0
 have x1 : W.cell? ⟨w.heap.size, 1, none⟩ = some (.int .i64 x.h.1) := cell_of_row W _ 1 _ _ _ r0
 have x2 : W.cell? ⟨w.heap.size, 2, none⟩ = some (.string x.h.2) := cell_of_row W _ 2 _ _ _ r0
 have y1 : W.cell? ⟨w.heap.size + 1, 1, none⟩ = some (.int .i64 y.h.1) := cell_of_row W _ 1 _ _ _ r1
 have y2 : W.cell? ⟨w.heap.size + 1, 2, none⟩ = some (.string y.h.2) := cell_of_row W _ 2 _ _ _ r1
 have HD := hZ9 (show hadLtB x.h y.h = (decide (x.h.1 < y.h.1) || (decide (x.h.1 = y.h.1) && ltS x.h.2 y.h.2)) from rfl)
 unfold hoVal
 clear hW r0 r1 hw0 hz
 obtain ⟨⟨xs, xn⟩, xa, xb, xc⟩ := x
 obtain ⟨⟨ys, yn⟩, ya, yb, yc⟩ := y
 dsimp only at *
 by_cases h1 : xs < ys
 · have k1 : decide (xs < ys) = true := decide_eq_true h1
   have HE := hZ9 (show hadLtB (xs, xn) (ys, yn) = true by rw [HD.out, k1]; rfl)
   rw [HE.out]
   clear HD h1
   go_enter Tryz.func89, Tryz.ntmps89
   go_upto_region 1 with (fail)
   rw [← HW.out]
   go_wp2_with fail
   go_ret
   exact ⟨rfl, Hb.out⟩
 have k1 : decide (xs < ys) = false := decide_eq_false h1
 by_cases h2 : xs = ys
 · have k2 : (xs == ys) = true := beq_iff_eq.2 h2
   have HE := hZ9 (show hadLtB (xs, xn) (ys, yn) = ltS xn yn by rw [HD.out, k1, decide_eq_true h2]; simp)
   obtain ⟨bl, hbl⟩ : ∃ bl, Op.bytesLess xn.toList yn.toList = bl := ⟨_, rfl⟩
   have HL := hZ9 (show ltS xn yn = bl from hbl)
   rw [HE.out, HL.out]
   clear HD h1 h2 HE HL
   cases bl with
   | false =>
     go_enter Tryz.func89, Tryz.ntmps89
     go_upto_region 1 with (fail)
     rw [← HW.out]
     go_wp2_with fail
     go_ret
     exact ⟨rfl, Hb.out⟩
   | true =>
     go_enter Tryz.func89, Tryz.ntmps89
     go_upto_region 1 with (fail)
     rw [← HW.out]
     go_wp2_with fail
     go_ret
     exact ⟨rfl, Hb.out⟩
 have k2 : (xs == ys) = false := beq_eq_false_iff_ne.2 h2
 have HE := hZ9 (show hadLtB (xs, xn) (ys, yn) = false by rw [HD.out, k1, decide_eq_false h2]; rfl)
 rw [HE.out]
 clear HD h1 h2
 go_enter Tryz.func89, Tryz.ntmps89
 go_upto_region 1 with (fail)
 rw [← HW.out]
 go_wp2_with fail
 go_ret
 exact ⟨rfl, Hb.out⟩
theorem Tryz.phoInfo : (Tryz.prog.info? 118).map (fun i => (i.zero, i.size, i.bytes)) = some (some (.agg #[.int .i64 0, .int .i64 0, .string ⟨#[]⟩, .slice none 0 0]), 4, 56) := by kernel_rfl
theorem append_pho (ac : Int) {w : World} {ops : Array Oper} {rest : List Oper} {o : Oper} {a : Act} {Q : Exit → Act → World → Prop} (hgd : o.guard = none) (s x : Operand)
 (ho : o.op = .call { callee := .builtin .append, args := #[s, x], argTypes := #[114, 114] })
 (base : Nat) (hbase : base ≤ w.heap.size) (v vx : Value) (L X : List HoX) (hs : a.eval s = v) (hx : a.eval x = vx) (hown : w.ownsRow base 118 4 v L.length (L.flatMap (hoCells ac))) (hX : RecAt (hoCells ac) 4 w vx X) (hlen : L.length + X.length ≤ 1000000)
 (h : ∀ R : List HoX, RowKit.Hid (R = L ++ X) → ∀ v' w', w'.ownsRow base 118 4 v' R.length (R.flatMap (hoCells ac)) → w.grownBy w' v.ownBlock → wpList Tryz.prog ops Q rest (a.put o.dst v') w') : wpList Tryz.prog ops Q (o :: rest) a w :=
 append_rec2 (c := hoCells ac) (sz := 4) (fun _ => rfl) (ho_one ac) 118 114 _ 56 Tryz.underlying114 Tryz.phoInfo rfl (by decide) hgd s x ho base hbase v vx L X hs hx hown hX (by unfold maxLen; omega) (by omega) h
def hdPhi (wa : World) (ve : Value) (ge : Nat) (ac sb : Int) (nm : ByteArray) (A : List (Int × Int)) : Nat → Value → World → Prop
 | 0, v, _ => v = .int .i64 ac
 | 1, v, _ => v = .pointer (some ⟨ge, 3, none⟩)
 | 2, v, _ => v = .int .i64 sb
 | 3, v, _ => v = .pointer (some ⟨ge, 5, none⟩)
 | 4, v, _ => v = .string nm
 | 5, v, _ => v = ve
 | 6, v, _ => v = .pointer (some ⟨ge, 3, none⟩)
 | 7, v, _ => v = .int .i64 sb
 | 8, v, _ => v = .pointer (some ⟨ge, 5, none⟩)
 | 9, v, _ => v = .string nm
 | 10, v, w => ∃ qa qc, v = .slice qa A.length qc ∧ w.ownsRow wa.heap.size 25 2 (.slice qa A.length qc) A.length (A.flatMap perCells)
 | 11, v, w => ∃ qa qc, v = .agg #[.int .i64 ac, .int .i64 sb, .string nm, .slice qa A.length qc] ∧ w.ownsRow wa.heap.size 25 2 (.slice qa A.length qc) A.length (A.flatMap perCells)
 | 12, v, w => ∃ g cs, v = .pointer (some ⟨g, 0, none⟩) ∧ wa.heap.size ≤ g ∧ w.heap[g]? = some (Obj.cells cs 118) ∧ cs.size = 4
 | _, _, _ => True
theorem hdPhi_stays {wa : World} {ve : Value} {ge : Nat} {ac sb : Int} {nm : ByteArray} {A : List (Int × Int)} {w1 w2 : World} (hb : Below w1.heap.size w1 w2) : ∀ kQ yQ, hdPhi wa ve ge ac sb nm A kQ yQ w1 → hdPhi wa ve ge ac sb nm A kQ yQ w2
 | 0, _, h => h
 | 1, _, h => h
 | 2, _, h => h
 | 3, _, h => h
 | 4, _, h => h
 | 5, _, h => h
 | 6, _, h => h
 | 7, _, h => h
 | 8, _, h => h
 | 9, _, h => h
 | 10, _, h => (by obtain ⟨qa, qc, h1, h2⟩ := h; exact ⟨qa, qc, h1, ownsRow_below h2 hb⟩)
 | 11, _, h => (by obtain ⟨qa, qc, h1, h2⟩ := h; exact ⟨qa, qc, h1, ownsRow_below h2 hb⟩)
 | 12, _, h => (by obtain ⟨g, cs, h1, h2, h3, h4⟩ := h; exact ⟨g, cs, h1, h2, (hb.block _ (ltB9 h3)).trans h3, h4⟩)
 | _ + 13, _, _ => trivial
theorem pholdings_calls (v : Value) (l : List Ev) (ac : Int) (w : World) (h : EvsAt w v l) (hr : OkRun l) (hl : l.length ≤ 100) :
 Calls Tryz.prog 54 #[v, .int .i64 ac] w (HosTo l ac w) := by
 have hmm := @run_makeMap Tryz.prog
 have HAc := hZ9 (fun n s w1 (hb : Below w.heap.size w w1) => active_own v l n s w1 (h.below hb) (by omega))
 have HSz := hZ9 h.2
 have HE := hZ9 h.1
 have Hr := hZ9 hr
 have Hl := hZ9 hl
 obtain ⟨av, cap, rfl, hlc, hcm⟩ := rec_shape h.1
 unfold maxLen at hcm
 obtain ⟨V, hV⟩ : ∃ V, V = (w.alloc (.map #[] 0)).alloc (.map #[] 0) := ⟨_, rfl⟩
 have hs1 : (w.alloc (.map #[] 0)).heap.size = w.heap.size + 1 := by simp
 have hV1 : Below (w.alloc (.map #[] 0)).heap.size (w.alloc (.map #[] 0)) V := by rw [hV]; exact (Below.refl _ _).alloc (Nat.le_refl _) _
 have hV0 : Below w.heap.size w V := ((Below.refl _ w).alloc (Nat.le_refl _) _).trans (hV1.mono (by omega))
 have HInit := hZ9 (show HdInv l ac w w.heap.size (w.heap.size + 1) 0 0 [] [] [] [] (fun _ => []) (.slice none 0 0) V from
  ⟨hadTo_zero l ac, (OwnS.made 3 w).below hV1, mineOk_zero l ac, Nat.le_refl _, by rw [hV, ← hs1]; exact OwnN.made _, Nat.le_refl _, (fun s b hs => by cases hs), (fun s hs => rfl), (fun s s' b hs => by cases hs), (fun n s => by simp), ⟨none, 0, rfl, Nat.le_refl _, ⟨by unfold maxLen; omega, fun _ => rfl⟩, fun h => absurd rfl h⟩, (fun x hx => by cases hx), Nat.le_refl _, by omega, Nat.le_refl _, hV0⟩)
 have HV := hZ9 hV
 clear h hr hl hV hV0 hV1
 go_enter Tryz.func54, Tryz.ntmps54
 go_upto_region 4 with (fail)
 rw [← HV.out]
 go_wp2_with fail
 go_loopw [7, 17] (fun vo i wr => ∃ (k : Nat) (X : List HoX) (ms : List Value) (P : List (ByteArray × Nat)) (Kf : ByteArray → List Value), k ≤ l.length ∧ i = .int .i64 k ∧ HdInv l ac w w.heap.size (w.heap.size + 1) k (2 * k) [] X ms P Kf vo wr) (fun _ i _ => l.length - (intOf i).toNat)
 case atStart => exact ⟨0, [], [], [], fun _ => [], Nat.zero_le _, rfl, HInit.out⟩
 case round =>
  obtain ⟨wo, rfl⟩ : ∃ wo : World, wo = wr := ⟨_, rfl⟩
  obtain ⟨k, X, ms, P, Kf, hk, rfl, hinv⟩ := hrel
  have HIv := hZ9 hinv
  have hb := hinv.below
  have hXl := hinv.len
  have hX100 : X.length ≤ 100 := by have := Hl.out; omega
  obtain ⟨aX, cX, rfl, hX1, hX2⟩ := rec_shape hinv.row
  unfold maxLen at hX2
  clear hinv
  by_cases hlt : k < l.length
  · have hk1 : (k : Int) < (l.length : Int) := by omega
    have hk0 : (0 : Int) ≤ (k : Int) := Int.natCast_nonneg _
    have HSkip := hZ9 (fun wr' vo (h : HdInv l ac w w.heap.size (w.heap.size + 1) k (2 * k) [] X ms P Kf vo wr') => h.skip Hr.out hlt)
    have HAdd := hZ9 (fun wr1 wr' vo (h : HdInv l ac w w.heap.size (w.heap.size + 1) k (2 * k) [] X ms P Kf vo wr1) => HdInv.add (wr' := wr') Hr.out hlt h)
    have HFin := hZ9 (fun wr1 wr' B P Kf vo x vo' (h : HdInv l ac w w.heap.size (w.heap.size + 1) k B [((l[k]).sb, (l[k]).nm)] X ms P Kf vo wr1) => HdInv.fin (wr' := wr') (x := x) (vo' := vo') hlt h)
    have HBd := hZ9 (show -9223372036854775808 ≤ (l[k]).sb ∧ (l[k]).sb ≤ 9223372036854775807 from by
     have h := Hr.out k hlt
     cases hu : usesS (l[k]).kd with
     | true => have := h.s1 hu; omega
     | false => have := h.s0 hu; omega)
    have HNm := hZ9 ((HSz.out _ (List.getElem_mem hlt)).2)
    obtain ⟨a2, n2, e2, -, -, hx⟩ := HE.out.below hb
    cases e2
    obtain ⟨bb, o, rfl, hB, hx⟩ := hx (by rintro rfl; cases hlt)
    have x0 : wo.cell? ⟨bb, o + k * 7, none⟩ = some (.int .i64 (l[k]).tm) := hx k hlt 0 (by decide)
    have x1 : wo.cell? ⟨bb, o + k * 7 + 1, none⟩ = some (.int .i64 (l[k]).kd) := hx k hlt 1 (by decide)
    have x2 : wo.cell? ⟨bb, o + k * 7 + 2, none⟩ = some (.int .i64 (l[k]).ac) := hx k hlt 2 (by decide)
    have x3 : wo.cell? ⟨bb, o + k * 7 + 3, none⟩ = some (.int .i64 (l[k]).sb) := hx k hlt 3 (by decide)
    have x4 : wo.cell? ⟨bb, o + k * 7 + 4, none⟩ = some (.string (l[k]).nu) := hx k hlt 4 (by decide)
    have x5 : wo.cell? ⟨bb, o + k * 7 + 5, none⟩ = some (.string (l[k]).nm) := hx k hlt 5 (by decide)
    have x6 : wo.cell? ⟨bb, o + k * 7 + 6, none⟩ = some (.int .i64 (l[k]).vl) := hx k hlt 6 (by decide)
    clear hx
    generalize l[k] = ev at *
    obtain ⟨Y, hY⟩ : ∃ Y, Y = wo.alloc (Obj.cells #[.int .i64 ev.tm, .int .i64 ev.kd, .int .i64 ev.ac, .int .i64 ev.sb, .string ev.nu, .string ev.nm, .int .i64 ev.vl] 55) := ⟨_, rfl⟩
    have hbY : Below wo.heap.size wo Y := by rw [hY]; exact (Below.refl _ _).alloc (Nat.le_refl _) _
    have YN := hZ9 (show Y.heap[wo.heap.size]? = some (Obj.cells #[.int .i64 ev.tm, .int .i64 ev.kd, .int .i64 ev.ac, .int .i64 ev.sb, .string ev.nu, .string ev.nm, .int .i64 ev.vl] 55) by rw [hY]; exact heap_alloc_new _ _)
    have HIY := hZ9 (HIv.out.go hbY)
    have HY := hZ9 hY
    have hyn : wo.heap.size < Y.heap.size := (ltB9 YN.out)
    clear hY hbY hb
    go_upto_region 7 with (fail)
    rw [← HY.out]
    clear x0 x1 x2 x3 x4 x5 x6
    have tQ := fun j => cell_of_row Y _ j _ _ _ YN.out
    have y1 := tQ 1
    have y2 := tQ 2
    have y3 := tQ 3
    have y5 := tQ 5
    clear tQ
    obtain ⟨tm, kd, aco, sb, nu, nm, vl⟩ := ev
    dsimp only at y1 y2 y3 y5 HBd HNm HSkip HAdd HFin YN
    by_cases h3 : kd = 3
    · have k3 : (kd == 3) = true := beq_iff_eq.2 h3
      have k8 : (kd != 8) = true := bne_iff_ne.2 (by omega)
      by_cases ha : aco = ac
      · have ka : (aco == ac) = true := beq_iff_eq.2 ha
        have HM := hZ9 HIY.out.mine
        have HMl := hZ9 (show ms.length < maxLen by have := HIY.out.msl; have := Hl.out; unfold maxLen; omega)
        have HKy := hZ9 (keyI HBd.out.1 HBd.out.2)
        have HA := hZ9 (fun wr' => HAdd.out Y wr' _ HIY.out h3 ha)
        clear h3 ha
        go_wp2_with (at_mapUpdate; refine wpList_put_set lawI Tryz.underlying157 _ rfl _ _ _ rfl w.heap.size ms rfl HM.out HMl.out (.int .i64 sb) _ rfl rfl HKy.out ?_)
        intro w2 hm2 hg2
        have HI2 := hZ9 (HA.out w2 hm2 hg2)
        have N2 := (hg2.block wo.heap.size hyn (by intro e; have := Option.some.inj e; have := HIv.out.below.size; have := HIv.out.mine.lt; omega)).trans YN.out
        have z1 := cell_of_row w2 _ 1 _ _ _ N2
        clear hm2 hg2 N2 y1 y2 y3 y5
        go_wp2
        exact ⟨⟨k + 1, X, _, P, Kf, hlt, by go_num, HI2.out⟩, by simp [intOf]; omega⟩
      have ka : (aco == ac) = false := beq_eq_false_iff_ne.2 ha
      have HS := hZ9 (HSkip.out Y _ HIY.out (fun h => ha h.2) (Or.inl (by rw [h3]; decide)))
      clear h3 ha
      go_wp2
      exact ⟨⟨k + 1, X, ms, P, Kf, hlt, by go_num, HS.out⟩, by simp [intOf]; omega⟩
    have k3 : (kd == 3) = false := beq_eq_false_iff_ne.2 h3
    by_cases h8 : kd = 8
    · have k8 : (kd != 8) = false := bne_eq_false_iff_eq.2 h8
      have HKy := hZ9 (keyI HBd.out.1 HBd.out.2)
      obtain ⟨bm, hbm, hrm⟩ := HIY.out.mine.look lawI Tryz.underlying157 HKy.out
      have Hbm := hZ9 hbm
      cases bm with
      | false =>
        have HS := hZ9 (HSkip.out Y _ HIY.out (fun h => h3 h.1) (Or.inr (Or.inl (fun hm => Bool.noConfusion (Hbm.out.2 hm)))))
        clear h3 h8 hbm
        go_wp2
        exact ⟨⟨k + 1, X, ms, P, Kf, hlt, by go_num, HS.out⟩, by simp [intOf]; omega⟩
      | true =>
        have hrs := HIY.out.seen.look HNm.out
        have Hms := hZ9 (Hbm.out.1 rfl)
        clear hbm Hbm
        cases hv : valN P nm
        case' none =>
         rw [hv] at hrs
         have hri := look_nilI sb HBd.out.1 HBd.out.2 Y
         have hq := fun w1 => run_eq_map_nil (P := Tryz.prog) w1 157 _ _ none Tryz.underlying157
         have HKf := hZ9 (HIY.out.inz nm hv)
         have HNi := hZ9 (show ((sb, nm) : Had) ∉ X.map (·.h) from fun hm => by
          have := (HIY.out.kf sb nm).2 (Or.inl hm)
          rw [HKf.out] at this
          cases this)
         have HZ := hZ9 (show OwnN (Y.alloc (.map #[] 0)) (w.heap.size + 1) P from HIY.out.seen.keep (((Below.refl Y.heap.size Y).alloc (Nat.le_refl _) (.map #[] 0)).block _ HIY.out.seen.lt))
         have HPl := hZ9 (show P.length < maxLen by have := HIY.out.seenl; have := Hl.out; unfold maxLen; omega)
         have HFr := hZ9 (fun wr' => HIY.out.fresh (wr' := wr') hv)
         have HYm := hZ9 HIY.out.seen.lt
         clear hv
         go_wp2_with (at_mapUpdate; refine wpList_put_map _ rfl _ _ _ rfl (w.heap.size + 1) P rfl HZ.out HPl.out nm Y.heap.size rfl rfl HNm.out ?_)
         intro U hmU hgU
         have HIU := hZ9 (HFr.out U hmU hgU)
         have HvU := hZ9 (show valN (P ++ [(nm, Y.heap.size)]) nm = some Y.heap.size by rw [valN_snoc, if_pos (sameS_refl _)])
         have UN := hZ9 ((hgU.block wo.heap.size (by simp; omega) (by intro e; have := Option.some.inj e; have := HIv.out.below.size; have := HIv.out.seen.lt; omega)).trans ((((Below.refl Y.heap.size Y).alloc (Nat.le_refl _) (.map #[] 0)).block _ hyn).trans YN.out))
         have HbLt := hZ9 (show wo.heap.size ≠ Y.heap.size from Nat.ne_of_lt hyn)
         have hUn : wo.heap.size < U.heap.size := (ltB9 UN.out)
         have z3 := cell_of_row U _ 3 _ _ _ UN.out
         have z5 := cell_of_row U _ 5 _ _ _ UN.out
         clear hmU hgU y1 y2 y3 y5 hrm hrs hri
         obtain ⟨b, hb9⟩ : ∃ b, b = Y.heap.size := ⟨_, rfl⟩
         rw [← hb9] at HIU HvU HbLt
         try rw [← hb9]
         obtain ⟨P2, hP2⟩ : ∃ P2, P2 = P ++ [(nm, b)] := ⟨_, rfl⟩
         rw [← hP2] at HIU HvU
         clear hb9 hP2
        case' some b =>
         rw [hv] at hrs
         have HIn := hZ9 (HIY.out.inn nm b hv)
         obtain ⟨bi, hbi, hri⟩ := HIn.out.1.look lawI Tryz.underlying157 HKy.out
         have Hbi := hZ9 hbi
         cases bi
         case' true =>
          have HS := hZ9 (HSkip.out Y _ HIY.out (fun h => h3 h.1) (Or.inr (Or.inr (Hbi.out.1 rfl))))
          clear h3 h8 hbi hv
          go_wp2
          exact ⟨⟨k + 1, X, ms, P, Kf, hlt, by go_num, HS.out⟩, by simp [intOf]; omega⟩
         case' false =>
          have hq := fun w1 => run_eq_map_nil (P := Tryz.prog) w1 157 _ _ (some b) Tryz.underlying157
          have HNi := hZ9 (show ((sb, nm) : Had) ∉ X.map (·.h) from fun hm => Bool.noConfusion (Hbi.out.2 ((HIY.out.kf sb nm).2 (Or.inl hm))))
          have HIU := hZ9 (HIY.out.mono (show 2 * k ≤ 2 * k + 1 by omega))
          have HvU := hZ9 hv
          have UN := YN
          have HbLt := hZ9 (show wo.heap.size ≠ b from (Nat.ne_of_lt (HIv.out.inn nm b hv).1.lt).symm)
          have hUn := hyn
          clear hv hbi
          obtain ⟨U, rfl⟩ : ∃ U : World, U = Y := ⟨_, rfl⟩
          obtain ⟨P2, rfl⟩ : ∃ P2, P2 = P := ⟨_, rfl⟩
        all_goals
         have hrs2 := HIU.out.seen.look HNm.out
         rw [HvU.out] at hrs2
         have HInU := hZ9 (HIU.out.inn nm b HvU.out)
         have HKl := hZ9 (show (Kf nm).length < maxLen by have := HInU.out.2.2; have := Hl.out; unfold maxLen; omega)
         have HJn := hZ9 (fun wr' => HIU.out.join (wr' := wr') (n := sb) HvU.out)
         go_wp2_with (at_mapUpdate; refine wpList_put_set lawI Tryz.underlying157 _ rfl _ _ _ rfl b (Kf nm) rfl HInU.out.1 HKl.out (.int .i64 sb) _ rfl rfl HKy.out ?_)
         intro w3 hm3 hg3
         have HI3 := hZ9 (HJn.out w3 hm3 hg3)
         have N3 := hZ9 ((hg3.block wo.heap.size hUn (by intro e; have := Option.some.inj e; have := HbLt.out; omega)).trans UN.out)
         have hn3 : wo.heap.size < w3.heap.size := (ltB9 N3.out)
         have HAw := hZ9 (show ∀ Z, Below w3.heap.size w3 Z → Z.cell? ⟨wo.heap.size, 3, none⟩ = some (.int .i64 sb) ∧ Z.cell? ⟨wo.heap.size, 5, none⟩ = some (.string nm) from fun Z hZ => by
          have q := (hZ.block _ hn3).trans N3.out
          exact ⟨cell_of_row Z _ 3 _ _ _ q, cell_of_row Z _ 5 _ _ _ q⟩)
         have HA3 := hZ9 (fun Z (hZ : Below w3.heap.size w3 Z) => HAc.out sb nm Z (HI3.out.below.trans (hZ.mono HI3.out.below.size)))
         generalize (fun s' => if sameS s' nm = true then Kf nm ++ [Value.int .i64 sb] else Kf s') = Kf2 at *
         clear hm3 hg3 hrs2 HJn HInU
         go_upto_region 13 with (fail)
         refine wp_region_free3 13 (fun w' => Below w3.heap.size w3 w') (hdPhi w3 (.slice (some ⟨bb, o, none⟩) l.length cap) wo.heap.size ac sb nm (actL sb nm l)) (by kernel_rfl) (by kernel_rfl) (Below.refl _ _).drew ?_ ?_
         · generalize hfr : (fun v : Nat → Value => _) = fr
           simp only [List.take_succ_cons, List.take_zero, List.map_cons, List.map_nil, putsL, List.setIfInBounds_toArray, List.set_cons_succ, List.set_cons_zero, Nat.zero_add, Nat.reduceAdd] at hfr
           simp only [List.take_succ_cons, List.take_zero, FreeHead]
           refine ⟨?_, ?_, ?_, ?_, ?_, ?_, ?_, ?_, ?_, ?_, ?_, ?_, ?_, trivial⟩
           iterate 2
            · intro v w5 hC hd K hK
              rw [← hfr] at hK ⊢
              go_simp
              exact hK _ _ hC (hdPhi_stays (Below.refl _ _)) rfl
           · intro v w5 hC hd K hK
             obtain ⟨(e1 : v 1 = _), -⟩ := hd
             obtain ⟨p0, p1⟩ := HAw.out w5 hC
             rw [← hfr] at hK ⊢
             simp only [e1] at hK ⊢
             go_simp
             exact hK _ _ hC (hdPhi_stays (Below.refl _ _)) rfl
           · intro v w5 hC hd K hK
             rw [← hfr] at hK ⊢
             go_simp
             exact hK _ _ hC (hdPhi_stays (Below.refl _ _)) rfl
           · intro v w5 hC hd K hK
             obtain ⟨(e3 : v 3 = _), -⟩ := hd
             obtain ⟨p0, p1⟩ := HAw.out w5 hC
             rw [← hfr] at hK ⊢
             simp only [e3] at hK ⊢
             go_simp
             exact hK _ _ hC (hdPhi_stays (Below.refl _ _)) rfl
           iterate 2
            · intro v w5 hC hd K hK
              rw [← hfr] at hK ⊢
              go_simp
              exact hK _ _ hC (hdPhi_stays (Below.refl _ _)) rfl
           · intro v w5 hC hd K hK
             obtain ⟨(e6 : v 6 = _), -⟩ := hd
             obtain ⟨p0, p1⟩ := HAw.out w5 hC
             rw [← hfr] at hK ⊢
             simp only [e6] at hK ⊢
             go_simp
             exact hK _ _ hC (hdPhi_stays (Below.refl _ _)) rfl
           · intro v w5 hC hd K hK
             rw [← hfr] at hK ⊢
             go_simp
             exact hK _ _ hC (hdPhi_stays (Below.refl _ _)) rfl
           · intro v w5 hC hd K hK
             obtain ⟨(e8 : v 8 = _), -⟩ := hd
             obtain ⟨p0, p1⟩ := HAw.out w5 hC
             rw [← hfr] at hK ⊢
             simp only [e8] at hK ⊢
             go_simp
             exact hK _ _ hC (hdPhi_stays (Below.refl _ _)) rfl
           · intro v w5 hC hd K hK
             obtain ⟨(e5 : v 5 = _), (e7 : v 7 = _), (e9 : v 9 = _), -⟩ := hd
             rw [← hfr] at hK ⊢
             simp only [e5, e7, e9] at hK ⊢
             go_simp
             refine (HA3.out w5 hC).mono ?_
             rintro e w6 ⟨y, rfl, own4, hb4⟩
             obtain ⟨qa, qc, rfl, -, -⟩ := own_shape own4
             exact hK _ _ (hC.trans (hb4.mono hC.size)) (hdPhi_stays hb4) ⟨qa, qc, rfl, own_down own4 hC.size⟩
           · intro v w5 hC hd K hK
             obtain ⟨(e0 : v 0 = _), (e2 : v 2 = _), (e4 : v 4 = _), f10, -⟩ := hd
             obtain ⟨qa, qc, e10, hq⟩ : ∃ qa qc, v 10 = .slice qa (actL sb nm l).length qc ∧ w5.ownsRow w3.heap.size 25 2 (.slice qa (actL sb nm l).length qc) (actL sb nm l).length ((actL sb nm l).flatMap perCells) := f10
             rw [← hfr] at hK ⊢
             simp only [e0, e2, e4, e10] at hK ⊢
             go_simp
             exact hK _ _ hC (hdPhi_stays (Below.refl _ _)) ⟨qa, qc, rfl, hq⟩
           intro v w5 hC hd K hK
           rw [← hfr] at hK ⊢
           go_simp
           exact hK _ _ (hC.alloc hC.size _) (hdPhi_stays ((Below.refl _ _).alloc (Nat.le_refl _) _)) ⟨_, _, rfl, hC.size, heap_alloc_new _ _, rfl⟩
         intro v w5 hC hall
         obtain ⟨qa, qc, e11, hq⟩ : ∃ qa qc, v 11 = .agg #[.int .i64 ac, .int .i64 sb, .string nm, .slice qa (actL sb nm l).length qc] ∧ w5.ownsRow w3.heap.size 25 2 (.slice qa (actL sb nm l).length qc) (actL sb nm l).length ((actL sb nm l).flatMap perCells) := hall.1.2
         obtain ⟨g, cs, e12, hg, hrow, hcs⟩ : ∃ g cs, v 12 = .pointer (some ⟨g, 0, none⟩) ∧ w3.heap.size ≤ g ∧ w5.heap[g]? = some (Obj.cells cs 118) ∧ cs.size = 4 := hall.2
         have HbQ := hZ9 (below_setRow1 hC hg #[.int .i64 ac, .int .i64 sb, .string nm, .slice qa (actL sb nm l).length qc])
         have hrow2 := setRow_heap w5 g cs #[.int .i64 ac, .int .i64 sb, .string nm, .slice qa (actL sb nm l).length qc] _ _ hrow
         have hown2 := own_setRow1 hq (own_other hq hrow (by decide)) #[.int .i64 ac, .int .i64 sb, .string nm, .slice qa (actL sb nm l).length qc]
         simp only [List.take_succ_cons, List.take_zero, List.map_cons, List.map_nil, putsL, List.setIfInBounds_toArray, List.set_cons_succ, List.set_cons_zero, Nat.zero_add, Nat.reduceAdd, List.drop_succ_cons, List.drop_zero]
         simp only [e11, e12]
         generalize v 0 = y0, v 1 = y1, v 2 = y2, v 3 = y3, v 4 = y4, v 5 = y5, v 6 = y6, v 7 = y7, v 8 = y8, v 9 = y9, v 10 = y10
         clear e11 e12 hall
         refine wpList_store_row rfl _ _ _ rfl g #[.int .i64 ac, .int .i64 sb, .string nm, .slice qa (actL sb nm l).length qc] rfl rfl 118 _ hrow (by kernel_rfl) hcs (by simp [Value.oneCell']) ?_
         obtain ⟨Q, hQ⟩ : ∃ Q, Q = w5.setRow g #[.int .i64 ac, .int .i64 sb, .string nm, .slice qa (actL sb nm l).length qc] := ⟨_, rfl⟩
         rw [← hQ] at hrow2 hown2 HbQ ⊢
         have HIQ := hZ9 (HI3.out.go HbQ.out)
         obtain ⟨x, hx⟩ : ∃ x : HoX, x = ⟨(sb, nm), qa, (actL sb nm l).length, qc⟩ := ⟨_, rfl⟩
         have Hxr := hZ9 (show HoRd l Q x by rw [hx]; exact ⟨PersAt.own hown2, HNm.out⟩)
         have Hx1 := hZ9 (show x.h = (sb, nm) by rw [hx])
         have Hx2 := hZ9 (show Q.heap[g]? = some (Obj.cells #[.int .i64 ac, .int .i64 x.h.1, .string x.h.2, .slice x.pa x.pn x.pc] 118) by rw [hx]; exact hrow2)
         have hgq : g < Q.heap.size := (ltB9 hrow2)
         have HSo := hZ9 (fun (y : HoX) w1 => sooner_calls ac y x w1)
         unfold hoVal at HSo
         have HFi := hZ9 (fun wr' vo' hb => HFin.out Q wr' (2 * k + 2) P2 Kf2 (.slice aX X.length cX) x vo' HIQ.out h8 Hms.out HNi.out Hx1.out hb)
         clear hC hq hrow hcs hown2 hrow2 hQ hx HAw HA3 v hg
         go_wp2_with fail
         go_loopw [11] (fun i wr => ∃ j : Nat, j ≤ X.length ∧ i = .int .i64 j ∧ RowKit.Hid (∀ u (hu : u < X.length), u < j → hadLtB (X[u]).h x.h = true) ∧ Below Q.heap.size Q wr) (fun i _ => X.length - (intOf i).toNat)
         case atStart => exact ⟨0, Nat.zero_le _, rfl, hZ9 fun u hu h => by omega, Below.refl _ _⟩
         case round =>
          obtain ⟨wi, rfl⟩ : ∃ wi : World, wi = wr := ⟨_, rfl⟩
          obtain ⟨j, hj, rfl, Hn, hb⟩ := hrel
          have Hb := hZ9 hb
          have hj0 : (0 : Int) ≤ (j : Int) := Int.natCast_nonneg _
          have hgw : g < wi.heap.size := Nat.lt_of_lt_of_le hgq hb.size
          have RO := hZ9 ((hb.block _ hgq).trans Hx2.out)
          have HXw := hZ9 (RecAt.below HIQ.out.row hb)
          have s0 := fun p : BelowOf wi => BelowOf.cell (a := ⟨g, 0, none⟩) hgw (cell_of_row wi _ 0 _ _ _ RO.out) p
          have s1 := fun p : BelowOf wi => BelowOf.cell (a := ⟨g, 1, none⟩) hgw (cell_of_row wi _ 1 _ _ _ RO.out) p
          have s2 := fun p : BelowOf wi => BelowOf.cell (a := ⟨g, 2, none⟩) hgw (cell_of_row wi _ 2 _ _ _ RO.out) p
          have s3 := fun p : BelowOf wi => BelowOf.cell (a := ⟨g, 3, none⟩) hgw (cell_of_row wi _ 3 _ _ _ RO.out) p
          by_cases hjt : j < X.length
          · have hj1 : (j : Int) < (X.length : Int) := by omega
            obtain ⟨a3, c3, e3, -, -, hx⟩ := HXw.out
            cases e3
            obtain ⟨b2, o2, rfl, hB2, hx⟩ := hx (by rintro rfl; cases hjt)
            have hx := hx j hjt
            have x0 := fun p : BelowOf wi => BelowOf.cell (a := ⟨b2, o2 + j * 4, none⟩) hB2 (show wi.cell? ⟨b2, o2 + j * 4, none⟩ = some (.int .i64 ac) from hx 0 (by decide)) p
            have x1 := fun p : BelowOf wi => BelowOf.cell (a := ⟨b2, o2 + j * 4 + 1, none⟩) hB2 (show wi.cell? ⟨b2, o2 + j * 4 + 1, none⟩ = some (.int .i64 (X[j]).h.1) from hx 1 (by decide)) p
            have x2 := fun p : BelowOf wi => BelowOf.cell (a := ⟨b2, o2 + j * 4 + 2, none⟩) hB2 (show wi.cell? ⟨b2, o2 + j * 4 + 2, none⟩ = some (.string (X[j]).h.2) from hx 2 (by decide)) p
            have x3 := fun p : BelowOf wi => BelowOf.cell (a := ⟨b2, o2 + j * 4 + 3, none⟩) hB2 (show wi.cell? ⟨b2, o2 + j * 4 + 3, none⟩ = some (.slice (X[j]).pa (X[j]).pn (X[j]).pc) from hx 3 (by decide)) p
            have HStep := hZ9 (show hadLtB (X[j]).h x.h = true → ∀ u (hu : u < X.length), u < j + 1 → hadLtB (X[u]).h x.h = true from fun h u hu hjk => by
             rcases Nat.lt_or_ge u j with h1 | h1
             · exact Hn.out u hu h1
             obtain rfl : u = j := by omega
             exact h)
            have HStop := hZ9 (show hadLtB (X[j]).h x.h = false → kT (fun y : HoX => hadLtB y.h x.h) X = j from fun h => kT_at hjt (fun u hu => Hn.out u (by omega) hu) h)
            clear hx hb
            have HEa := hZ9 (fun w1 => HSo.out X[j] w1)
            generalize X[j] = y at *
            cases he : hadLtB y.h x.h with
            | true =>
              have HE := hZ9 (HStep.out he)
              rw [he] at HEa
              clear he
              go_upto_region 15 with (fail)
              refine wp_region_quiet_below (Below.refl wi.heap.size wi) (by kernel_rfl) (by kernel_rfl) ?_
              repeat (go_big_quiet_step (first | (go_at_call 89; refine calls_below_of (HEa.out _) (fun e w' h => h))))
              refine wpQuiet_nil ?_
              intro wz hw'
              have hYa : Below wi.heap.size wi wz := by obtain ⟨pq, rfl⟩ := hw'; exact pq.h
              have Hbz := hZ9 (Hb.out.trans (hYa.mono Hb.out.size))
              clear hw' hYa s0 s1 s2 s3 x0 x1 x2 x3
              go_wp2
              exact ⟨⟨j + 1, by omega, by go_num, HE, Hbz.out⟩, by simp [intOf]; omega⟩
            | false =>
              have HK := hZ9 (HStop.out he)
              rw [he] at HEa
              clear he
              go_upto_region 15 with (fail)
              refine wp_region_quiet_below (Below.refl wi.heap.size wi) (by kernel_rfl) (by kernel_rfl) ?_
              repeat (go_big_quiet_step (first | (go_at_call 89; refine calls_below_of (HEa.out _) (fun e w' h => h))))
              refine wpQuiet_nil ?_
              intro wz hw'
              have hYa : Below wi.heap.size wi wz := by obtain ⟨pq, rfl⟩ := hw'; exact pq.h
              have Hbz := hZ9 (Hb.out.trans (hYa.mono Hb.out.size))
              clear s0 s1 s2 s3 x0 x1 x2 x3 HStep HStop
              have BZ := hZ9 ((Hbz.out.block _ hgq).trans Hx2.out)
              have hwz : g < wz.heap.size := (ltB9 BZ.out)
              have HXz := hZ9 (RecAt.below HIQ.out.row Hbz.out)
              clear hYa hw'
              go_upto_region 17 with (fail)
              have HTk := hZ9 (sliceAt_take HXz.out (j) (Nat.le_of_lt hjt))
              have HDk := hZ9 (sliceAt_drop HXz.out (j) (Nat.le_of_lt hjt))
              obtain ⟨TK, hTK⟩ : ∃ TK, TK = X.take (j) := ⟨_, rfl⟩
              obtain ⟨DK, hDK⟩ : ∃ DK, DK = X.drop (j) := ⟨_, rfl⟩
              have hTl : TK.length ≤ X.length := by rw [hTK, List.length_take]; omega
              have hTD : TK.length + DK.length = X.length := by rw [hTK, hDK, ← List.length_append, List.take_append_drop]
              have HRes := hZ9 (show TK ++ [x] ++ DK = X.take (j) ++ [x] ++ X.drop (j) by rw [hTK, hDK])
              rw [← hTK] at HTk
              rw [← hDK] at HDk
              clear hTK hDK
              have hbY : Below wz.heap.size wz wz := Below.refl _ _
              have HbY := hZ9 hbY
              have Hown0 := hZ9 (show wz.ownsRow wz.heap.size 118 4 (.slice none 0 0) 0 [] from World.ownsRow_nil _ _ _ _)
              have hbs0 := hbY.size
              clear hbY
              have qb := ((Below.refl _ _).block _ hwz).trans BZ.out
              have tQ := fun j => cell_of_row wz _ j _ _ _ qb
              have u0 := tQ 0
              have u1 := tQ 1
              have u2 := tQ 2
              have u3 := tQ 3
              clear tQ
              clear qb
              go_wp2_with (at_builtin; refine append_pho ac rfl _ _ rfl wz.heap.size hbs0 _ _ [] TK rfl rfl Hown0.out (RecAt.below HTk.out HbY.out) (by rw [List.length_nil, Nat.zero_add]; omega) ?_)
              intro P5 hP5 v5 w5 own5 hg5
              obtain rfl : TK = P5 := hP5.out.symm
              clear hP5
              have hb5 := HbY.out.grown hg5 hbs0 (fun g hg => (ownsRow_block Hown0.out g hg).1)
              have Hb5 := hZ9 hb5
              have Own5 := hZ9 own5
              have hbs5 := hb5.size
              obtain ⟨a5, c5, rfl, hc5, hm5⟩ := own_shape own5
              clear own5 hg5 hb5 u0 u1 u2 u3
              have qb := (Hb5.out.block _ hwz).trans BZ.out
              have tQ := fun j => cell_of_row w5 _ j _ _ _ qb
              have u0 := tQ 0
              have u1 := tQ 1
              have u2 := tQ 2
              have u3 := tQ 3
              clear tQ
              clear qb
              have HX2 := hZ9 (RecAt.one (c := (hoCells ac)) (sz := 4) w5 (x) 118 #[.int .i64 ac, .int .i64 x.h.1, .string x.h.2, .slice x.pa x.pn x.pc] rfl)
              go_wp2_with (at_builtin; refine append_pho ac rfl _ _ rfl wz.heap.size (Nat.le_trans hbs5 (World.le_alloc _ _)) _ _ TK [x] rfl rfl (Own5.out.alloc _) HX2.out (by rw [List.length_singleton]; omega) ?_)
              intro R6 hR6 v6 w6 own6 hg6
              have HR6 := hZ9 hR6.out
              have hR6l : R6.length = TK.length + 1 := by rw [hR6.out, List.length_append]; rfl
              have hb6 := (Hb5.out.alloc hbs5 (Obj.cells #[.int .i64 ac, .int .i64 x.h.1, .string x.h.2, .slice x.pa x.pn x.pc] 118)).grown hg6 (Nat.le_trans hbs5 (World.le_alloc _ _)) (fun g hg => (ownsRow_block Own5.out g hg).1)
              have Hb6 := hZ9 hb6
              have hbs6 := hb6.size
              obtain ⟨a6, c6, rfl, hc6, hm6⟩ := own_shape own6
              have Own6 := hZ9 own6
              have HR6l := hZ9 hR6l
              have hR6b : R6.length ≤ X.length + 1 := by omega
              have hR6d : R6.length + DK.length ≤ X.length + 1 := by omega
              clear own6 hg6 hb6 hR6 hR6l u0 u1 u2 u3
              by_cases hcc : cX = j
              case' pos =>
               have HDk := hZ9 (show RecAt (hoCells ac) 4 wz (.slice (some ⟨b2, o2, none⟩) (X.length - (j)) 0) DK by
                have h := HDk.out
                rw [if_pos hcc, hcc, Nat.sub_self] at h
                exact h)
              case' neg =>
               have HDk := hZ9 (show RecAt (hoCells ac) 4 wz (.slice (some ⟨b2, o2 + (j) * 4, none⟩) (X.length - (j)) (cX - (j))) DK by
                have h := HDk.out
                rw [if_neg hcc, Option.map_some, addr_plus] at h
                exact h)
              all_goals
               have qb := (Hb6.out.block _ hwz).trans BZ.out
               have tQ := fun j => cell_of_row w6 _ j _ _ _ qb
               have u0 := tQ 0
               have u1 := tQ 1
               have u2 := tQ 2
               have u3 := tQ 3
               clear tQ
               clear qb
               go_wp2_with (at_builtin; refine append_pho ac rfl _ _ rfl wz.heap.size hbs6 _ _ R6 DK rfl rfl Own6.out (RecAt.below HDk.out Hb6.out) (by omega) ?_)
               intro R hR7 v7 w7 own7 hg7
               have Hb7 := hZ9 (Hb6.out.grown hg7 hbs6 (fun g hg => (ownsRow_block Own6.out g hg).1))
               have HR := hZ9 (show R = X.take (j) ++ [x] ++ X.drop (j) by rw [hR7.out, HR6.out, HRes.out])
               have hRl : R.length ≤ X.length + 1 := by rw [hR7.out, List.length_append]; omega
               have Own7 := hZ9 own7
               obtain ⟨a7, c7, rfl, hc7, hm7⟩ := own_shape own7
               clear own7 hg7 hR7 u0 u1 u2 u3
               have HbF := hZ9 (Hbz.out.trans (Hb7.out.mono Hbz.out.size))
               have HF := hZ9 (show R = insT (fun y : HoX => hadLtB y.h x.h) x X by rw [HR.out]; unfold insT; rw [HK.out])
               have HRow := hZ9 (show RecAt (hoCells ac) 4 w7 (.slice a7 R.length c7) (insT (fun y : HoX => hadLtB y.h x.h) x X) by rw [← HF.out]; exact RecAt.own (fun _ => rfl) Own7.out)
               have HNx := hZ9 (HFi.out w7 (.slice a7 R.length c7) HbF.out HRow.out (Hxr.out.below HbF.out))
               clear hRl
               go_wp2
               exact ⟨⟨k + 1, _, ms, P2, Kf2, hlt, by go_num, HNx.out⟩, by simp [intOf]; omega⟩
          have hj1 : ¬ (j : Int) < (X.length : Int) := by omega
          have HK := hZ9 (show kT (fun y : HoX => hadLtB y.h x.h) X = j from (kT_all (fun u hu => Hn.out u hu (by omega))).trans (by omega))
          clear hb
          go_upto_region 15 with (fail)
          refine wp_region_quiet_below (Below.refl wi.heap.size wi) (by kernel_rfl) (by kernel_rfl) ?_
          repeat (go_big_quiet_step (fail))
          refine wpQuiet_nil ?_
          intro wz hw'
          have hYa : Below wi.heap.size wi wz := by obtain ⟨pq, rfl⟩ := hw'; exact pq.h
          have Hbz := hZ9 (Hb.out.trans (hYa.mono Hb.out.size))
          clear s0 s1 s2 s3
          cases aX with
          | none =>
            have hX0 : X.length = 0 := by
             obtain ⟨a3, c3, e3, -, hm3, -⟩ := HXw.out
             cases e3
             have := hm3.2 rfl
             omega
            obtain rfl : cX = 0 := by
             obtain ⟨a3, c3, e3, -, hm3, -⟩ := HXw.out
             cases e3
             exact hm3.2 rfl
            obtain rfl : j = 0 := by omega
            have BZ := hZ9 ((Hbz.out.block _ hgq).trans Hx2.out)
            have hwz : g < wz.heap.size := (ltB9 BZ.out)
            have HXz := hZ9 (RecAt.below HIQ.out.row Hbz.out)
            clear hYa hw'
            go_upto_region 17 with (fail)
            have HTk := hZ9 (sliceAt_take HXz.out (0) (Nat.zero_le _))
            have HDk := hZ9 (sliceAt_drop HXz.out (0) (Nat.zero_le _))
            obtain ⟨TK, hTK⟩ : ∃ TK, TK = X.take (0) := ⟨_, rfl⟩
            obtain ⟨DK, hDK⟩ : ∃ DK, DK = X.drop (0) := ⟨_, rfl⟩
            have hTl : TK.length ≤ X.length := by rw [hTK, List.length_take]; omega
            have hTD : TK.length + DK.length = X.length := by rw [hTK, hDK, ← List.length_append, List.take_append_drop]
            have HRes := hZ9 (show TK ++ [x] ++ DK = X.take (0) ++ [x] ++ X.drop (0) by rw [hTK, hDK])
            rw [← hTK] at HTk
            rw [← hDK] at HDk
            have HDe := hZ9 (show ∀ (a' : Option Addr) (n cp : Nat), n = 0 → CapOk a' cp → RecAt (hoCells ac) 4 wz (.slice a' n cp) DK from fun a' n cp hn hc => by
             have e : DK = [] := by rw [hDK]; exact List.drop_eq_nil_of_le (by omega)
             rw [e, hn]
             exact ⟨a', cp, rfl, Nat.zero_le _, hc, fun h => absurd rfl h⟩)
            clear hTK hDK HDk
            have hbY : Below wz.heap.size wz wz := Below.refl _ _
            have HbY := hZ9 hbY
            have Hown0 := hZ9 (show wz.ownsRow wz.heap.size 118 4 (.slice none 0 0) 0 [] from World.ownsRow_nil _ _ _ _)
            have hbs0 := hbY.size
            clear hbY
            have qb := ((Below.refl _ _).block _ hwz).trans BZ.out
            have tQ := fun j => cell_of_row wz _ j _ _ _ qb
            have u0 := tQ 0
            have u1 := tQ 1
            have u2 := tQ 2
            have u3 := tQ 3
            clear tQ
            clear qb
            go_wp2_with (at_builtin; refine append_pho ac rfl _ _ rfl wz.heap.size hbs0 _ _ [] TK rfl rfl Hown0.out (RecAt.below HTk.out HbY.out) (by rw [List.length_nil, Nat.zero_add]; omega) ?_)
            intro P5 hP5 v5 w5 own5 hg5
            obtain rfl : TK = P5 := hP5.out.symm
            clear hP5
            have hb5 := HbY.out.grown hg5 hbs0 (fun g hg => (ownsRow_block Hown0.out g hg).1)
            have Hb5 := hZ9 hb5
            have Own5 := hZ9 own5
            have hbs5 := hb5.size
            obtain ⟨a5, c5, rfl, hc5, hm5⟩ := own_shape own5
            clear own5 hg5 hb5 u0 u1 u2 u3
            have qb := (Hb5.out.block _ hwz).trans BZ.out
            have tQ := fun j => cell_of_row w5 _ j _ _ _ qb
            have u0 := tQ 0
            have u1 := tQ 1
            have u2 := tQ 2
            have u3 := tQ 3
            clear tQ
            clear qb
            have HX2 := hZ9 (RecAt.one (c := (hoCells ac)) (sz := 4) w5 (x) 118 #[.int .i64 ac, .int .i64 x.h.1, .string x.h.2, .slice x.pa x.pn x.pc] rfl)
            go_wp2_with (at_builtin; refine append_pho ac rfl _ _ rfl wz.heap.size (Nat.le_trans hbs5 (World.le_alloc _ _)) _ _ TK [x] rfl rfl (Own5.out.alloc _) HX2.out (by rw [List.length_singleton]; omega) ?_)
            intro R6 hR6 v6 w6 own6 hg6
            have HR6 := hZ9 hR6.out
            have hR6l : R6.length = TK.length + 1 := by rw [hR6.out, List.length_append]; rfl
            have hb6 := (Hb5.out.alloc hbs5 (Obj.cells #[.int .i64 ac, .int .i64 x.h.1, .string x.h.2, .slice x.pa x.pn x.pc] 118)).grown hg6 (Nat.le_trans hbs5 (World.le_alloc _ _)) (fun g hg => (ownsRow_block Own5.out g hg).1)
            have Hb6 := hZ9 hb6
            have hbs6 := hb6.size
            obtain ⟨a6, c6, rfl, hc6, hm6⟩ := own_shape own6
            have Own6 := hZ9 own6
            have HR6l := hZ9 hR6l
            have hR6b : R6.length ≤ X.length + 1 := by omega
            have hR6d : R6.length + DK.length ≤ X.length + 1 := by omega
            clear own6 hg6 hb6 hR6 hR6l u0 u1 u2 u3
            have qb := (Hb6.out.block _ hwz).trans BZ.out
            have tQ := fun j => cell_of_row w6 _ j _ _ _ qb
            have u0 := tQ 0
            have u1 := tQ 1
            have u2 := tQ 2
            have u3 := tQ 3
            clear tQ
            clear qb
            go_wp2_with (at_builtin; refine append_pho ac rfl _ _ rfl wz.heap.size hbs6 _ _ R6 DK rfl rfl Own6.out (RecAt.below (HDe.out _ _ _ (by first | omega | simp | (simp; omega)) ⟨by unfold maxLen; omega, fun h => by first | rfl | (cases h)⟩) Hb6.out) (by omega) ?_)
            intro R hR7 v7 w7 own7 hg7
            have Hb7 := hZ9 (Hb6.out.grown hg7 hbs6 (fun g hg => (ownsRow_block Own6.out g hg).1))
            have HR := hZ9 (show R = X.take (0) ++ [x] ++ X.drop (0) by rw [hR7.out, HR6.out, HRes.out])
            have hRl : R.length ≤ X.length + 1 := by rw [hR7.out, List.length_append]; omega
            have Own7 := hZ9 own7
            obtain ⟨a7, c7, rfl, hc7, hm7⟩ := own_shape own7
            clear own7 hg7 hR7 u0 u1 u2 u3
            have HbF := hZ9 (Hbz.out.trans (Hb7.out.mono Hbz.out.size))
            have HF := hZ9 (show R = insT (fun y : HoX => hadLtB y.h x.h) x X by rw [HR.out]; unfold insT; rw [HK.out])
            have HRow := hZ9 (show RecAt (hoCells ac) 4 w7 (.slice a7 R.length c7) (insT (fun y : HoX => hadLtB y.h x.h) x X) by rw [← HF.out]; exact RecAt.own (fun _ => rfl) Own7.out)
            have HNx := hZ9 (HFi.out w7 (.slice a7 R.length c7) HbF.out HRow.out (Hxr.out.below HbF.out))
            clear hRl
            go_wp2
            exact ⟨⟨k + 1, _, ms, P2, Kf2, hlt, by go_num, HNx.out⟩, by simp [intOf]; omega⟩
          | some ad =>
            have BZ := hZ9 ((Hbz.out.block _ hgq).trans Hx2.out)
            have hwz : g < wz.heap.size := (ltB9 BZ.out)
            have HXz := hZ9 (RecAt.below HIQ.out.row Hbz.out)
            clear hYa hw'
            go_upto_region 17 with (fail)
            have HTk := hZ9 (sliceAt_take HXz.out (j) hj)
            have HDk := hZ9 (sliceAt_drop HXz.out (j) hj)
            obtain ⟨TK, hTK⟩ : ∃ TK, TK = X.take (j) := ⟨_, rfl⟩
            obtain ⟨DK, hDK⟩ : ∃ DK, DK = X.drop (j) := ⟨_, rfl⟩
            have hTl : TK.length ≤ X.length := by rw [hTK, List.length_take]; omega
            have hTD : TK.length + DK.length = X.length := by rw [hTK, hDK, ← List.length_append, List.take_append_drop]
            have HRes := hZ9 (show TK ++ [x] ++ DK = X.take (j) ++ [x] ++ X.drop (j) by rw [hTK, hDK])
            rw [← hTK] at HTk
            rw [← hDK] at HDk
            have HDe := hZ9 (show ∀ (a' : Option Addr) (n cp : Nat), n = 0 → CapOk a' cp → RecAt (hoCells ac) 4 wz (.slice a' n cp) DK from fun a' n cp hn hc => by
             have e : DK = [] := by rw [hDK]; exact List.drop_eq_nil_of_le (by omega)
             rw [e, hn]
             exact ⟨a', cp, rfl, Nat.zero_le _, hc, fun h => absurd rfl h⟩)
            clear hTK hDK HDk
            have hbY : Below wz.heap.size wz wz := Below.refl _ _
            have HbY := hZ9 hbY
            have Hown0 := hZ9 (show wz.ownsRow wz.heap.size 118 4 (.slice none 0 0) 0 [] from World.ownsRow_nil _ _ _ _)
            have hbs0 := hbY.size
            clear hbY
            have qb := ((Below.refl _ _).block _ hwz).trans BZ.out
            have tQ := fun j => cell_of_row wz _ j _ _ _ qb
            have u0 := tQ 0
            have u1 := tQ 1
            have u2 := tQ 2
            have u3 := tQ 3
            clear tQ
            clear qb
            go_wp2_with (at_builtin; refine append_pho ac rfl _ _ rfl wz.heap.size hbs0 _ _ [] TK rfl rfl Hown0.out (RecAt.below HTk.out HbY.out) (by rw [List.length_nil, Nat.zero_add]; omega) ?_)
            intro P5 hP5 v5 w5 own5 hg5
            obtain rfl : TK = P5 := hP5.out.symm
            clear hP5
            have hb5 := HbY.out.grown hg5 hbs0 (fun g hg => (ownsRow_block Hown0.out g hg).1)
            have Hb5 := hZ9 hb5
            have Own5 := hZ9 own5
            have hbs5 := hb5.size
            obtain ⟨a5, c5, rfl, hc5, hm5⟩ := own_shape own5
            clear own5 hg5 hb5 u0 u1 u2 u3
            have qb := (Hb5.out.block _ hwz).trans BZ.out
            have tQ := fun j => cell_of_row w5 _ j _ _ _ qb
            have u0 := tQ 0
            have u1 := tQ 1
            have u2 := tQ 2
            have u3 := tQ 3
            clear tQ
            clear qb
            have HX2 := hZ9 (RecAt.one (c := (hoCells ac)) (sz := 4) w5 (x) 118 #[.int .i64 ac, .int .i64 x.h.1, .string x.h.2, .slice x.pa x.pn x.pc] rfl)
            go_wp2_with (at_builtin; refine append_pho ac rfl _ _ rfl wz.heap.size (Nat.le_trans hbs5 (World.le_alloc _ _)) _ _ TK [x] rfl rfl (Own5.out.alloc _) HX2.out (by rw [List.length_singleton]; omega) ?_)
            intro R6 hR6 v6 w6 own6 hg6
            have HR6 := hZ9 hR6.out
            have hR6l : R6.length = TK.length + 1 := by rw [hR6.out, List.length_append]; rfl
            have hb6 := (Hb5.out.alloc hbs5 (Obj.cells #[.int .i64 ac, .int .i64 x.h.1, .string x.h.2, .slice x.pa x.pn x.pc] 118)).grown hg6 (Nat.le_trans hbs5 (World.le_alloc _ _)) (fun g hg => (ownsRow_block Own5.out g hg).1)
            have Hb6 := hZ9 hb6
            have hbs6 := hb6.size
            obtain ⟨a6, c6, rfl, hc6, hm6⟩ := own_shape own6
            have Own6 := hZ9 own6
            have HR6l := hZ9 hR6l
            have hR6b : R6.length ≤ X.length + 1 := by omega
            have hR6d : R6.length + DK.length ≤ X.length + 1 := by omega
            clear own6 hg6 hb6 hR6 hR6l u0 u1 u2 u3
            by_cases hcc : cX = j
            all_goals
             have qb := (Hb6.out.block _ hwz).trans BZ.out
             have tQ := fun j => cell_of_row w6 _ j _ _ _ qb
             have u0 := tQ 0
             have u1 := tQ 1
             have u2 := tQ 2
             have u3 := tQ 3
             clear tQ
             clear qb
             go_wp2_with (at_builtin; refine append_pho ac rfl _ _ rfl wz.heap.size hbs6 _ _ R6 DK rfl rfl Own6.out (RecAt.below (HDe.out _ _ _ (by first | omega | simp | (simp; omega)) ⟨by unfold maxLen; omega, fun h => by first | rfl | (cases h)⟩) Hb6.out) (by omega) ?_)
             intro R hR7 v7 w7 own7 hg7
             have Hb7 := hZ9 (Hb6.out.grown hg7 hbs6 (fun g hg => (ownsRow_block Own6.out g hg).1))
             have HR := hZ9 (show R = X.take (j) ++ [x] ++ X.drop (j) by rw [hR7.out, HR6.out, HRes.out])
             have hRl : R.length ≤ X.length + 1 := by rw [hR7.out, List.length_append]; omega
             have Own7 := hZ9 own7
             obtain ⟨a7, c7, rfl, hc7, hm7⟩ := own_shape own7
             clear own7 hg7 hR7 u0 u1 u2 u3
             have HbF := hZ9 (Hbz.out.trans (Hb7.out.mono Hbz.out.size))
             have HF := hZ9 (show R = insT (fun y : HoX => hadLtB y.h x.h) x X by rw [HR.out]; unfold insT; rw [HK.out])
             have HRow := hZ9 (show RecAt (hoCells ac) 4 w7 (.slice a7 R.length c7) (insT (fun y : HoX => hadLtB y.h x.h) x X) by rw [← HF.out]; exact RecAt.own (fun _ => rfl) Own7.out)
             have HNx := hZ9 (HFi.out w7 (.slice a7 R.length c7) HbF.out HRow.out (Hxr.out.below HbF.out))
             clear hRl
             go_wp2
             exact ⟨⟨k + 1, _, ms, P2, Kf2, hlt, by go_num, HNx.out⟩, by simp [intOf]; omega⟩
    have k8 : (kd != 8) = true := bne_iff_ne.2 h8
    have HS := hZ9 (HSkip.out Y _ HIY.out (fun h => h3 h.1) (Or.inl h8))
    clear h3 h8
    go_wp2
    exact ⟨⟨k + 1, X, ms, P, Kf, hlt, by go_num, HS.out⟩, by simp [intOf]; omega⟩
  have HF := hZ9 (HIv.out)
  have HHa := hZ9 (hadTo_all HIv.out.had (by omega))
  clear hb
  go_wp2
  go_ret
  exact ⟨_, _, X, rfl, HF.out.row, HHa.out, HF.out.rd, by have := Hl.out; omega, HF.out.below⟩
end Go.Proofs.YtngippiilgdnoaaGreat
