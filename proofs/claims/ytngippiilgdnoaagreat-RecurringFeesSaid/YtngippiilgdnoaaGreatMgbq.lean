/-
  The walk of the moments of a subscription.
  The walks of the comparison of two subscriptions, and of the functions that Spells joins moments by.
  The walk of joined at periods.
-/
import Derived.Test.YtngippiilgdnoaaGreatMgbp
import Derived.Test.YtngippiilgdnoaaGreatMgaq
import Derived.Test.YtngippiilgdnoaaGreatMgaf
namespace Go.Proofs.YtngippiilgdnoaaGreat
open Go.RowKit

def mmCells (p : Int × SbX) : List Value := .int .i64 p.1 :: sbCells p.2
def mmVal (p : Int × SbX) : Value := .agg (mmCells p).toArray
def plainM (X : List (Int × SbX)) : List (Int × Sb) := X.map fun p => (p.1, p.2.s)
theorem mm_one (p : Int × SbX) : ∀ u ∈ mmCells p, u.oneCell' = true := by
  intro u hu
  rcases List.mem_cons.1 hu with rfl | hu
  · rfl
  · exact sb_one _ u hu
theorem Tryz.momInfo : (Tryz.prog.info? 239).map (fun i => (i.zero, i.size, i.bytes)) = some (some (.agg #[.int .i64 0, .int .i64 0, .int .i64 0, .int .i64 0, .string ⟨#[]⟩, .slice none 0 0, .slice none 0 0, .bool false, .bool false]), 9, 104) := by kernel_rfl
def MmsOk (base : Nat) (w : World) (X : List (Int × SbX)) : Prop := ∀ p ∈ X, SbO base w p.2
theorem MmsOk.below {base : Nat} {w w' : World} {X : List (Int × SbX)} (h : MmsOk base w X) (hb : Below w.heap.size w w') : MmsOk base w' X := fun p hp => (h p hp).below hb
theorem SbO.setRow {base : Nat} {w : World} {x : SbX} (h : SbO base w x) {g : Nat} {cs : Array Value} {t : TypeId} {fr : Nat × Nat} (hg : w.heap[g]? = some (.cells cs t fr)) (ht : t ≠ 9) (cs' : Array Value) : SbO base (w.setRow g cs') x :=
  ⟨own_setRow1 h.row (own_other h.row hg ht) _, h.na, h.nn, h.nc, h.nus, h.plan, h.sizes⟩
/-- A subscription stays while a row of moments grows. -/
theorem SbO.grow {base base' : Nat} {w w' : World} {x : SbX} (h : SbO base w x) {v : Value} {n : Nat} {xs : List Value} (ho : w.ownsRow base' 239 9 v n xs) (hg : w.grownBy w' v.ownBlock) : SbO base w' x :=
  ⟨own_grow h.row hg (own_other2 h.row ho (by decide)), h.na, h.nn, h.nc, h.nus, h.plan, h.sizes⟩
def MmsTo (M : List (Int × Sb)) (w : World) (e : Ending) (w' : World) : Prop := ∃ (a : Option Addr) (c : Nat) (X : List (Int × SbX)), e = .returned (.slice a X.length c) ∧ w'.ownsRow w.heap.size 239 9 (.slice a X.length c) X.length (X.flatMap mmCells) ∧ plainM X = M ∧ MmsOk w.heap.size w' X ∧ Below w.heap.size w w'
/-- The round's relation: the moments so far in a row of the call's own, the subscription in its variable. -/
structure MomR (w : World) (X : List (Int × SbX)) (xs : SbX) (vo : Value) (wr : World) : Prop where
  own : wr.ownsRow w.heap.size 239 9 vo X.length (X.flatMap mmCells)
  ok : MmsOk w.heap.size wr X
  row : wr.heap[w.heap.size]? = some (.cells (sbCells xs).toArray 181)
  so : SbO w.heap.size wr xs
  b : Below w.heap.size w wr
theorem MomR.below {w : World} {X : List (Int × SbX)} {xs : SbX} {vo : Value} {wr w' : World} (h : MomR w X xs vo wr) (hb : Below wr.heap.size wr w') : MomR w X xs vo w' :=
  ⟨ownsRow_below h.own hb, h.ok.below hb, (hb.block _ (Array.getElem?_eq_some_iff.1 h.row).1).trans h.row, h.so.below hb, h.b.trans (hb.mono h.b.size)⟩
/-- The variable stored anew. -/
theorem MomR.var {w : World} {X : List (Int × SbX)} {xs x' : SbX} {vo : Value} {wr : World} (h : MomR w X xs vo wr) (hx : SbO w.heap.size wr x') : MomR w X x' vo (wr.setRow w.heap.size (sbCells x').toArray) :=
  ⟨own_setRow1 h.own (own_other h.own h.row (by decide)) _, fun p hp => (h.ok p hp).setRow h.row (by decide) _, setRow_heap wr _ _ _ _ _ h.row, hx.setRow h.row (by decide) _, below_setRow1 h.b (Nat.le_refl _) _⟩
/-- The row of moments turned. -/
theorem MomR.turn {w : World} {X X' : List (Int × SbX)} {xs : SbX} {vo v' : Value} {V w5 : World} (h : MomR w X xs vo V) (hg : V.grownBy w5 vo.ownBlock) (ho : w5.ownsRow w.heap.size 239 9 v' X'.length (X'.flatMap mmCells)) (hX : ∀ p ∈ X', p ∈ X ∨ p.2 = xs) : MomR w X' xs v' w5 :=
  ⟨ho, fun p hp => by
    rcases hX p hp with hp | hp
    · exact (h.ok p hp).grow h.own hg
    · rw [hp]; exact h.so.grow h.own hg, (hg.block _ (Array.getElem?_eq_some_iff.1 h.row).1 (fun e => own_other h.own h.row (by decide) e.symm)).trans h.row, h.so.grow h.own hg, h.b.grown hg h.b.size (fun g hg' => (ownsRow_block h.own g hg').1)⟩
theorem plainM_len (X : List (Int × SbX)) : (plainM X).length = X.length := List.length_map _
theorem plainM_snoc (X : List (Int × SbX)) (p : Int × SbX) : plainM (X ++ [p]) = plainM X ++ [(p.1, p.2.s)] := by unfold plainM; rw [List.map_append]; rfl
theorem prs_len (n : Int) (l : List Ev) : ∀ k, k ≤ l.length → (momF n (l.take k)).2.prs.length ≤ k
  | 0, _ => by rw [List.take_zero]; exact Nat.le_refl _
  | k + 1, hk => by
    rw [momF_take n l k (by omega)]
    have ih := prs_len n l k (by omega)
    generalize l[k]'(by omega) = e
    unfold momStep
    split
    · omega
    · dsimp only
      have a3 := withT_len (momF n (l.take k)).2.prs e.nm
      have a4 := withoutT_len (momF n (l.take k)).2.prs e.nm
      unfold nextS
      repeat' split
      all_goals (try dsimp only)
      all_goals first | omega | exact Nat.zero_le _

set_option maxRecDepth 100000 in
set_option maxHeartbeats 6400000 in
theorem moments_calls (v : Value) (l : List Ev) (n : Int) (w : World) (h : EvsAt w v l) (hl : l.length ≤ 1000) :
    Calls Tryz.prog 179 #[v, .int .i64 n] w (MmsTo (momF n l).1 w) := by
  have HA := Lib.hid h
  obtain ⟨av, cap, rfl, hcl, hcm⟩ := rec_shape h.1
  unfold maxLen at hcm
  clear h
  go_enter Tryz.func179, Tryz.ntmps179
  go_wp2_with fail
  go_loopw [5, 12] (fun vo i wr => ∃ (k : Nat) (X : List (Int × SbX)) (xs : SbX), k ≤ l.length ∧ i = .int .i64 k ∧ RowKit.Hid (plainM X = (momF n (l.take k)).1) ∧ RowKit.Hid (xs.s = (momF n (l.take k)).2) ∧ MomR w X xs vo wr) (fun _ i _ => l.length - (intOf i).toNat)
  case atStart =>
    refine ⟨0, [], ⟨zeroS, none, 0, 0, none, 0, 0⟩, Nat.zero_le _, rfl, Lib.hid rfl, Lib.hid rfl, World.ownsRow_nil _ _ _ _, (fun p hp => by cases hp), heap_alloc_new _ _, ⟨World.ownsRow_nil _ _ _ _, rfl, rfl, rfl, rfl, Nat.zero_le _, (fun p hp => by cases hp)⟩, (Below.refl _ _).alloc (Nat.le_refl _) _⟩
  case round =>
    obtain ⟨wo, rfl⟩ : ∃ wo : World, wo = wr := ⟨_, rfl⟩
    obtain ⟨k, X, xs, hk, rfl, HP, HS, hR⟩ := hrel
    have HR := Lib.hid hR
    clear hR
    obtain ⟨a, cp, rfl, hc1, hc2⟩ := own_shape HR.out.own
    unfold maxLen at hc2
    by_cases hlt : k < l.length
    · have hk1 : (k : Int) < (l.length : Int) := by omega
      have hk0 : (0 : Int) ≤ (k : Int) := Int.natCast_nonneg _
      have HMf := Lib.hid (momF_take n l k hlt)
      have HEs := Lib.hid (HA.out.2 _ (List.getElem_mem hlt))
      have HPl := Lib.hid (show xs.s.prs.length ≤ 10000 by
        have := prs_len n l k hk
        rw [← HS.out] at this; omega)
      have hXl : X.length ≤ 1000 := by
        have h1 := momF_len n l k hk
        rw [← HP.out, plainM_len] at h1; omega
      obtain ⟨a2, c2, e2, -, -, hx⟩ := (HA.out.below HR.out.b).1
      cases e2
      obtain ⟨bb, o, rfl, hB, hx⟩ := hx (by rintro rfl; cases hlt)
      have hx := hx k hlt
      have x0 := hx 0 (by decide)
      have x1 := hx 1 (by decide)
      have x2 := hx 2 (by decide)
      have x3 := hx 3 (by decide)
      have x4 := hx 4 (by decide)
      have x5 := hx 5 (by decide)
      have x6 := hx 6 (by decide)
      clear hx hB
      generalize l[k] = e at *
      obtain ⟨tm, kd, ac, sb, nu, nm, vl⟩ := e
      simp only [evCells, List.getElem?_cons_zero, List.getElem?_cons_succ, Nat.add_zero] at x0 x1 x2 x3 x4 x5 x6
      dsimp only at HEs
      obtain ⟨Y, hY⟩ : ∃ Y, Y = wo.alloc (Obj.cells #[.int .i64 tm, .int .i64 kd, .int .i64 ac, .int .i64 sb, .string nu, .string nm, .int .i64 vl] 55) := ⟨_, rfl⟩
      have hbY : Below wo.heap.size wo Y := by rw [hY]; go_grown
      have HYr := Lib.hid (show Y.heap[wo.heap.size]? = some (Obj.cells #[.int .i64 tm, .int .i64 kd, .int .i64 ac, .int .i64 sb, .string nu, .string nm, .int .i64 vl] 55) by rw [hY]; exact heap_alloc_new _ _)
      have HRY := Lib.hid (HR.out.below hbY)
      have HY := Lib.hid hY
      have hwY : wo.heap.size < Y.heap.size := (Array.getElem?_eq_some_iff.1 HYr.out).1
      have hgY : w.heap.size < wo.heap.size := (Array.getElem?_eq_some_iff.1 HR.out.row).1
      clear hbY hY
      have y3 := cell_of_row Y _ 3 _ _ _ HYr.out
      by_cases hn0 : n = 0
      · have HE := Lib.hid (HMf.out.trans (momStep_no (Or.inl hn0)))
        have hn1 : (n == 0) = true := by simp [hn0]
        clear hn0
        go_upto_region 6 with (fail)
        rw [← HY.out]
        go_wp2
        exact ⟨⟨k + 1, X, xs, by omega, by go_num, Lib.hid (HP.out.trans (by rw [HE.out])), Lib.hid (HS.out.trans (by rw [HE.out])), HRY.out⟩, by simp [intOf]; omega⟩
      · have hn1 : (n == 0) = false := by simp [hn0]
        by_cases hsn : sb = n
        · have HE := Lib.hid (HMf.out.trans (momStep_yes hn0 hsn))
          have hn2 : (sb != n) = false := by simp [hsn]
          clear hn0 hsn
          have HNx := Lib.hid (next_calls w.heap.size xs ⟨tm, kd, ac, sb, nu, nm, vl⟩ Y HRY.out.so HRY.out.b.size HEs.out.2 HPl.out)
          have y0 := cell_of_row Y _ 0 _ _ _ HYr.out
          have y1 := cell_of_row Y _ 1 _ _ _ HYr.out
          have y2 := cell_of_row Y _ 2 _ _ _ HYr.out
          have y4 := cell_of_row Y _ 4 _ _ _ HYr.out
          have y5 := cell_of_row Y _ 5 _ _ _ HYr.out
          have y6 := cell_of_row Y _ 6 _ _ _ HYr.out
          have s0 : Y.cell? ⟨w.heap.size, 0, none⟩ = some (.int .i64 xs.s.id) := cell_of_row Y _ 0 _ _ _ HRY.out.row
          have s1 : Y.cell? ⟨w.heap.size, 1, none⟩ = some (.int .i64 xs.s.ac) := cell_of_row Y _ 1 _ _ _ HRY.out.row
          have s2 : Y.cell? ⟨w.heap.size, 2, none⟩ = some (.int .i64 xs.s.si) := cell_of_row Y _ 2 _ _ _ HRY.out.row
          have s3 : Y.cell? ⟨w.heap.size, 3, none⟩ = some (.string xs.s.plan) := cell_of_row Y _ 3 _ _ _ HRY.out.row
          have s4 : Y.cell? ⟨w.heap.size, 4, none⟩ = some (.slice xs.na xs.nn xs.nc) := cell_of_row Y _ 4 _ _ _ HRY.out.row
          have s5 : Y.cell? ⟨w.heap.size, 5, none⟩ = some (.slice xs.pa xs.pn xs.pc) := cell_of_row Y _ 5 _ _ _ HRY.out.row
          have s6 : Y.cell? ⟨w.heap.size, 6, none⟩ = some (.bool xs.s.su) := cell_of_row Y _ 6 _ _ _ HRY.out.row
          have s7 : Y.cell? ⟨w.heap.size, 7, none⟩ = some (.bool xs.s.fa) := cell_of_row Y _ 7 _ _ _ HRY.out.row
          go_upto_region 6 with (fail)
          rw [← HY.out]
          go_wp2_with fail
          refine HNx.out.mono ?_
          rintro e w1 ⟨x', rfl, hx's, hso, hb1⟩
          have HS2 := Lib.hid (show x'.s = (momF n (l.take (k + 1))).2 by rw [HE.out, hx's, HS.out])
          have HP2 := Lib.hid (show (momF n (l.take (k + 1))).1 = putM (plainM X) tm x'.s by rw [HE.out, hx's, HP.out, HS.out])
          have HR1 := Lib.hid (HRY.out.below hb1)
          have HR2 := Lib.hid (HR1.out.var hso)
          have HRo := Lib.hid HR1.out.row
          have HY2 := Lib.hid (show (w1.setRow w.heap.size (sbCells x').toArray).heap[wo.heap.size]? = _ from (setRow_other _ _ _ _ (by omega)).trans ((hb1.block _ hwY).trans HYr.out))
          clear y0 y1 y2 y3 y4 y5 y6 s0 s1 s2 s3 s4 s5 s6 s7 x0 x1 x2 x3 x4 x5 x6 hx's hso hb1
          obtain ⟨Z, hZ⟩ : ∃ Z, Z = w1.setRow w.heap.size (sbCells x').toArray := ⟨_, rfl⟩
          rw [← hZ] at HR2 HY2
          have HZ := Lib.hid hZ
          clear hZ
          dsimp only [Act.put]
          repeat (first | (refine wpList_store_row rfl _ _ _ rfl w.heap.size (sbCells x').toArray rfl rfl 181 _ HRo.out (by kernel_rfl) rfl (by simp [sbCells, Value.oneCell']) ?_) | go_step)
          go_upto_region 9 with (fail)
          rw [← HZ.out]
          have z0 := cell_of_row Z _ 0 _ _ _ HY2.out
          by_cases hX : X = []
          · subst hX
            go_big_quiet (fail)
            clear z0
            go_upto_region 11 with (fail)
            obtain ⟨V, hV⟩ : ∃ V, V = Z.drewN nq := ⟨_, rfl⟩
            have hbV : Below Z.heap.size Z V := by rw [hV]; exact below_drewN2 (Below.refl _ _) _
            rw [← hV]
            have HRV := Lib.hid (HR2.out.below hbV)
            have HYV := Lib.hid ((hbV.block _ (Array.getElem?_eq_some_iff.1 HY2.out).1).trans HY2.out)
            clear hV hbV
            have e0 := cell_of_row V _ 0 _ _ _ HYV.out
            have s0 : V.cell? ⟨w.heap.size, 0, none⟩ = some (.int .i64 x'.s.id) := cell_of_row V _ 0 _ _ _ HRV.out.row
            have s1 : V.cell? ⟨w.heap.size, 1, none⟩ = some (.int .i64 x'.s.ac) := cell_of_row V _ 1 _ _ _ HRV.out.row
            have s2 : V.cell? ⟨w.heap.size, 2, none⟩ = some (.int .i64 x'.s.si) := cell_of_row V _ 2 _ _ _ HRV.out.row
            have s3 : V.cell? ⟨w.heap.size, 3, none⟩ = some (.string x'.s.plan) := cell_of_row V _ 3 _ _ _ HRV.out.row
            have s4 : V.cell? ⟨w.heap.size, 4, none⟩ = some (.slice x'.na x'.nn x'.nc) := cell_of_row V _ 4 _ _ _ HRV.out.row
            have s5 : V.cell? ⟨w.heap.size, 5, none⟩ = some (.slice x'.pa x'.pn x'.pc) := cell_of_row V _ 5 _ _ _ HRV.out.row
            have s6 : V.cell? ⟨w.heap.size, 6, none⟩ = some (.bool x'.s.su) := cell_of_row V _ 6 _ _ _ HRV.out.row
            have s7 : V.cell? ⟨w.heap.size, 7, none⟩ = some (.bool x'.s.fa) := cell_of_row V _ 7 _ _ _ HRV.out.row
            have HX := Lib.hid (RecAt.one (c := mmCells) (sz := 9) V (tm, x') 239 #[.int .i64 tm, .int .i64 x'.s.id, .int .i64 x'.s.ac, .int .i64 x'.s.si, .string x'.s.plan, .slice x'.na x'.nn x'.nc, .slice x'.pa x'.pn x'.pc, .bool x'.s.su, .bool x'.s.fa] rfl)
            have HRW := Lib.hid (HRV.out.below ((Below.refl V.heap.size V).alloc (Nat.le_refl _) (Obj.cells #[.int .i64 tm, .int .i64 x'.s.id, .int .i64 x'.s.ac, .int .i64 x'.s.si, .string x'.s.plan, .slice x'.na x'.nn x'.nc, .slice x'.pa x'.pn x'.pc, .bool x'.s.su, .bool x'.s.fa] 239)))
            have hVs := HRV.out.b.size
            go_wp2_with (at_builtin; refine append_rec2 (c := mmCells) (sz := 9) (fun _ => rfl) mm_one 239 236 _ 104 Tryz.underlying236 Tryz.momInfo rfl (by decide) rfl _ _ rfl w.heap.size ?hs _ _ [] [(tm, x')] rfl rfl HRW.out.own HX.out ?hl ?hb ?_)
            case hs => simp; omega
            case hl => unfold maxLen; simp <;> omega
            case hb => simp <;> omega
            intro R hR v5 w5 own5 hg5
            have HRe := Lib.hid (show R = ([] : List (Int × SbX)) ++ [(tm, x')] by rw [hR.out]; first | rfl | simp)
            have HRf := Lib.hid (HRW.out.turn hg5 own5 (fun p hp => by
              rw [HRe.out] at hp
              rcases List.mem_append.1 hp with hp | hp
              · exact Or.inl hp
              · rw [List.mem_singleton.1 hp]; exact Or.inr rfl))
            have HPf := Lib.hid (show plainM R = (momF n (l.take (k + 1))).1 by rw [HP2.out, HRe.out]; exact rfl)
            clear own5 hg5 hR e0 s0 s1 s2 s3 s4 s5 s6 s7 hVs
            go_wp2
            exact ⟨⟨k + 1, R, x', by omega, by go_num, HPf, HS2, HRf.out⟩, by simp [intOf]; omega⟩
          · obtain ⟨K, q, rfl⟩ : ∃ K q, X = K ++ [q] := ⟨_, _, (List.dropLast_concat_getLast hX).symm⟩
            obtain ⟨q1, q2⟩ := q
            clear hX
            obtain ⟨g0, rfl, hln, hgB, hgl, hown, hcell⟩ := own_last (c := mmCells) (sz := 9) (fun _ => rfl) HR2.out.own
            have HR2 := Lib.hid (show MomR w (K ++ [(q1, q2)]) x' (.slice (some ⟨g0, 0, none⟩) (K.length + 1) cp) Z by have h := HR2.out; rwa [hln] at h)
            have HownM := Lib.hid hown
            have z1 : Z.cell? ⟨g0, K.length * 9, none⟩ = some (.int .i64 q1) := hcell 0 (by decide)
            rw [hln] at hXl hc1 ⊢
            have hj1 : IntKind.i64.wrap ((K.length : Int) + 1 - 1) = (K.length : Int) := by rw [Int.add_sub_cancel]; exact IntWalk.i64_in _ (by omega)
            have hj2 : (0 : Int) < (K.length : Int) + 1 := by omega
            have hj3 : ((K.length : Int) + 1).toNat = K.length + 1 := by omega
            have hj4 : IntKind.i64.wrap (K.length : Int) = (K.length : Int) := IntWalk.i64_in _ (by omega)
            have hj5 : (0 : Int) ≤ (K.length : Int) := Int.natCast_nonneg _
            have hj6 : (K.length : Int) < (K.length : Int) + 1 := by omega
            have J := Lib.hid (And.intro hj1 (And.intro hj2 (And.intro hj3 (And.intro hj4 (And.intro hj5 hj6)))))
            have Hln := Lib.hid hln
            clear hown hcell hln
            by_cases hq : q1 = tm
            · have hq2 : (q1 == tm) = true := by rw [hq]; exact beq_self_eq_true _
              have Hq := Lib.hid hq
              clear hq
              go_big_quiet (fail)
              clear hj1 hj2 hj3 hj4 hj5 hj6 z0 z1
              go_upto_region 10 with (fail)
              obtain ⟨V, hV⟩ : ∃ V, V = Z.drewN nq := ⟨_, rfl⟩
              have hbV : Below Z.heap.size Z V := by rw [hV]; exact below_drewN2 (Below.refl _ _) _
              rw [← hV]
              have HRV := Lib.hid (HR2.out.below hbV)
              have HoV := Lib.hid (ownsRow_below HownM.out hbV)
              clear hV hbV
              have s0 : V.cell? ⟨w.heap.size, 0, none⟩ = some (.int .i64 x'.s.id) := cell_of_row V _ 0 _ _ _ HRV.out.row
              have s1 : V.cell? ⟨w.heap.size, 1, none⟩ = some (.int .i64 x'.s.ac) := cell_of_row V _ 1 _ _ _ HRV.out.row
              have s2 : V.cell? ⟨w.heap.size, 2, none⟩ = some (.int .i64 x'.s.si) := cell_of_row V _ 2 _ _ _ HRV.out.row
              have s3 : V.cell? ⟨w.heap.size, 3, none⟩ = some (.string x'.s.plan) := cell_of_row V _ 3 _ _ _ HRV.out.row
              have s4 : V.cell? ⟨w.heap.size, 4, none⟩ = some (.slice x'.na x'.nn x'.nc) := cell_of_row V _ 4 _ _ _ HRV.out.row
              have s5 : V.cell? ⟨w.heap.size, 5, none⟩ = some (.slice x'.pa x'.pn x'.pc) := cell_of_row V _ 5 _ _ _ HRV.out.row
              have s6 : V.cell? ⟨w.heap.size, 6, none⟩ = some (.bool x'.s.su) := cell_of_row V _ 6 _ _ _ HRV.out.row
              have s7 : V.cell? ⟨w.heap.size, 7, none⟩ = some (.bool x'.s.fa) := cell_of_row V _ 7 _ _ _ HRV.out.row
              obtain ⟨so, sg⟩ := own_setCells (sbCells x') _ (K.length * 9 + 1) _ HoV.out
              rw [flat_last_set (c := mmCells) (sz := 9) (fun _ => rfl) K (q1, q2) (q1, x') 1 (sbCells x') rfl rfl] at so
              have SO := Lib.hid (show (V.setCells g0 (K.length * 9 + 1) (sbCells x')).ownsRow w.heap.size 239 9 (.slice (some ⟨g0, 0, none⟩) (K.length + 1) cp) (K ++ [(q1, x')]).length ((K ++ [(q1, x')]).flatMap mmCells) by rw [List.length_append, List.length_singleton]; exact so)
              have HRf := Lib.hid (HRV.out.turn sg SO.out (fun p hp => by
                rcases List.mem_append.1 hp with hp | hp
                · exact Or.inl (List.mem_append_left _ hp)
                · rw [List.mem_singleton.1 hp]; exact Or.inr rfl))
              have HTh := Lib.hid (own_there2 HoV.out (K.length * 9 + 1) 8 (by omega))
              have HPf := Lib.hid (show plainM (K ++ [(q1, x')]) = (momF n (l.take (k + 1))).1 by
                have e := Hq.out
                rw [HP2.out, plainM_snoc, plainM_snoc, e]; exact (putM_eq (plainM K) q2.s x'.s tm).symm)
              obtain ⟨hj1, hj2, hj3, hj4, hj5, hj6⟩ := J.out
              clear so sg
              obtain ⟨V2, hV2⟩ : ∃ V2, V2 = V.setCells g0 (K.length * 9 + 1) (sbCells x').toArray.toList := ⟨_, rfl⟩
              have HRf2 := Lib.hid (show MomR w (K ++ [(q1, x')]) x' (.slice (some ⟨g0, 0, none⟩) (K.length + 1) cp) V2 by rw [hV2]; exact HRf.out)
              have HV2 := Lib.hid hV2
              clear hV2 HRf SO
              repeat (first | ((refine wpList_store_mid rfl _ _ _ rfl g0 (K.length * 9 + 1) (sbCells x').toArray rfl rfl HTh.out (by kernel_rfl) (by simp [sbCells, Value.oneCell']) ?_); rw [← HV2.out]; clear hj1 hj2 hj3 hj4 hj5 hj6 s0 s1 s2 s3 s4 s5 s6 s7) | go_step)
              exact ⟨⟨k + 1, K ++ [(q1, x')], x', by omega, by go_num, HPf, HS2, HRf2.out⟩, by simp [intOf]; omega⟩
            · have hq2 : (q1 == tm) = false := beq_eq_false_iff_ne.2 hq
              have Hq := Lib.hid hq
              clear hq
              go_big_quiet (fail)
              clear hj1 hj2 hj3 hj4 hj5 hj6 z0 z1
              go_upto_region 11 with (fail)
              obtain ⟨V, hV⟩ : ∃ V, V = Z.drewN nq := ⟨_, rfl⟩
              have hbV : Below Z.heap.size Z V := by rw [hV]; exact below_drewN2 (Below.refl _ _) _
              rw [← hV]
              have HRV := Lib.hid (HR2.out.below hbV)
              have HYV := Lib.hid ((hbV.block _ (Array.getElem?_eq_some_iff.1 HY2.out).1).trans HY2.out)
              clear hV hbV
              have e0 := cell_of_row V _ 0 _ _ _ HYV.out
              have s0 : V.cell? ⟨w.heap.size, 0, none⟩ = some (.int .i64 x'.s.id) := cell_of_row V _ 0 _ _ _ HRV.out.row
              have s1 : V.cell? ⟨w.heap.size, 1, none⟩ = some (.int .i64 x'.s.ac) := cell_of_row V _ 1 _ _ _ HRV.out.row
              have s2 : V.cell? ⟨w.heap.size, 2, none⟩ = some (.int .i64 x'.s.si) := cell_of_row V _ 2 _ _ _ HRV.out.row
              have s3 : V.cell? ⟨w.heap.size, 3, none⟩ = some (.string x'.s.plan) := cell_of_row V _ 3 _ _ _ HRV.out.row
              have s4 : V.cell? ⟨w.heap.size, 4, none⟩ = some (.slice x'.na x'.nn x'.nc) := cell_of_row V _ 4 _ _ _ HRV.out.row
              have s5 : V.cell? ⟨w.heap.size, 5, none⟩ = some (.slice x'.pa x'.pn x'.pc) := cell_of_row V _ 5 _ _ _ HRV.out.row
              have s6 : V.cell? ⟨w.heap.size, 6, none⟩ = some (.bool x'.s.su) := cell_of_row V _ 6 _ _ _ HRV.out.row
              have s7 : V.cell? ⟨w.heap.size, 7, none⟩ = some (.bool x'.s.fa) := cell_of_row V _ 7 _ _ _ HRV.out.row
              have HX := Lib.hid (RecAt.one (c := mmCells) (sz := 9) V (tm, x') 239 #[.int .i64 tm, .int .i64 x'.s.id, .int .i64 x'.s.ac, .int .i64 x'.s.si, .string x'.s.plan, .slice x'.na x'.nn x'.nc, .slice x'.pa x'.pn x'.pc, .bool x'.s.su, .bool x'.s.fa] rfl)
              have HRW := Lib.hid (HRV.out.below ((Below.refl V.heap.size V).alloc (Nat.le_refl _) (Obj.cells #[.int .i64 tm, .int .i64 x'.s.id, .int .i64 x'.s.ac, .int .i64 x'.s.si, .string x'.s.plan, .slice x'.na x'.nn x'.nc, .slice x'.pa x'.pn x'.pc, .bool x'.s.su, .bool x'.s.fa] 239)))
              have hVs := HRV.out.b.size
              go_wp2_with (at_builtin; refine append_rec2 (c := mmCells) (sz := 9) (fun _ => rfl) mm_one 239 236 _ 104 Tryz.underlying236 Tryz.momInfo rfl (by decide) rfl _ _ rfl w.heap.size ?hs _ _ (K ++ [(q1, q2)]) [(tm, x')] rfl rfl HRW.out.own HX.out ?hl ?hb ?_)
              case hs => simp; omega
              case hl => unfold maxLen; simp <;> omega
              case hb => simp <;> omega
              intro R hR v5 w5 own5 hg5
              have HRe := Lib.hid (show R = (K ++ [(q1, q2)]) ++ [(tm, x')] by rw [hR.out]; first | rfl | simp)
              have HRf := Lib.hid (HRW.out.turn hg5 own5 (fun p hp => by
                rw [HRe.out] at hp
                rcases List.mem_append.1 hp with hp | hp
                · exact Or.inl hp
                · rw [List.mem_singleton.1 hp]; exact Or.inr rfl))
              have HPf := Lib.hid (show plainM R = (momF n (l.take (k + 1))).1 by rw [HP2.out, HRe.out, plainM_snoc, plainM_snoc]; exact (putM_ne (plainM K) (q1, q2.s) tm x'.s Hq.out).symm)
              clear own5 hg5 hR e0 s0 s1 s2 s3 s4 s5 s6 s7 hVs
              go_wp2
              exact ⟨⟨k + 1, R, x', by omega, by go_num, HPf, HS2, HRf.out⟩, by simp [intOf]; omega⟩
        · have HE := Lib.hid (HMf.out.trans (momStep_no (Or.inr hsn)))
          have hn2 : (sb != n) = true := by simp [hsn]
          clear hn0 hsn
          go_upto_region 6 with (fail)
          rw [← HY.out]
          go_wp2
          exact ⟨⟨k + 1, X, xs, by omega, by go_num, Lib.hid (HP.out.trans (by rw [HE.out])), Lib.hid (HS.out.trans (by rw [HE.out])), HRY.out⟩, by simp [intOf]; omega⟩
    · have HE := Lib.hid (show (momF n (l.take k)).1 = (momF n l).1 by rw [List.take_of_length_le (by omega)])
      go_wp2
      go_ret
      exact ⟨a, cp, X, rfl, HR.out.own, HP.out.trans HE.out, HR.out.ok, HR.out.b⟩
end Go.Proofs.YtngippiilgdnoaaGreat

namespace Go.Proofs.YtngippiilgdnoaaGreat
open Go.RowKit

theorem alikeB_no {a b : Sb} (h : ¬ view a = view b) : alikeB a b = false := by
  cases hq : alikeB a b with
  | false => rfl
  | true => exact absurd ((alikeB_iff _ _).1 hq) h
theorem alikeB_yes {a b : Sb} (h1 : a.id = b.id) (h2 : a.plan = b.plan) (h3 : a.su = b.su) (h4 : a.fa = b.fa) (h5 : a.prs = b.prs) : alikeB a b = true := by
  unfold alikeB
  rw [h1, h2, h3, h4, h5, decide_eq_true rfl, (sameS_iff _ _).2 rfl, (alikeTs_iff _ _).2 rfl]
  simp
theorem take_all_eq {α : Type} {a b : List α} {k : Nat} (hl : a.length = b.length) (hk : a.length ≤ k) (h : a.take k = b.take k) : a = b := by
  rwa [List.take_of_length_le hk, List.take_of_length_le (by omega)] at h
theorem sub_snoc_eq {α : Type} {a b : List α} {k : Nat} (ha : k < a.length) (hb : k < b.length) (h : a.take k = b.take k) (e : a[k] = b[k]) : a.take (k + 1) = b.take (k + 1) := by
  rw [List.take_succ_eq_append_getElem ha, List.take_succ_eq_append_getElem hb, h, e]
theorem sub_ne_get {α : Type} {a b : List α} {k : Nat} (ha : k < a.length) (hb : k < b.length) (h : ¬ a[k] = b[k]) : a ≠ b := by
  rintro rfl
  exact h rfl
theorem two_rows2 (w : World) (o1 o2 : Obj) : ∃ W, W = (w.alloc o1).alloc o2 ∧ W.heap[w.heap.size]? = some o1 ∧ W.heap[w.heap.size + 1]? = some o2 ∧ Below w.heap.size w W ∧ w.heap.size + 1 < W.heap.size := by
  obtain ⟨h1, h2, h3, h4⟩ := two_rows w o1 o2
  exact ⟨_, rfl, h1, h2, h3, by simp⟩

set_option maxRecDepth 100000 in
set_option maxHeartbeats 6400000 in
theorem equal_calls (x y : SbX) (w : World) (hx : StrsAt w (.slice x.pa x.pn x.pc) x.s.prs) (hy : StrsAt w (.slice y.pa y.pn y.pc) y.s.prs) :
    Calls Tryz.prog 181 #[sbVal x, sbVal y] w fun e w' => e = .returned (.bool (alikeB x.s y.s)) ∧ Below w.heap.size w w' := by
  obtain ⟨⟨i1, i2, i3, i4, nus, prs, su, fa⟩, na, nn, nc, pa, pn, pc⟩ := x
  obtain ⟨⟨j1, j2, j3, j4, mus, qrs, tu, ga⟩, ma, mn, mc, qa, qn, qc⟩ := y
  dsimp only at hx hy
  obtain ⟨W, hW, r0, r1, hw0, hz⟩ := two_rows2 w (Obj.cells #[.int .i64 i1, .int .i64 i2, .int .i64 i3, .string i4, .slice na nn nc, .slice pa pn pc, .bool su, .bool fa] 181) (Obj.cells #[.int .i64 j1, .int .i64 j2, .int .i64 j3, .string j4, .slice ma mn mc, .slice qa qn qc, .bool tu, .bool ga] 181)
  have HX := Lib.hid (hx.below hw0)
  have HY := Lib.hid (hy.below hw0)
  obtain ⟨a1, c1, e1, hl1, hm1, -⟩ := hx
  cases e1
  obtain ⟨a2, c2, e2, hl2, hm2, -⟩ := hy
  cases e2
  have hm1 := hm1.1
  have hm2 := hm2.1
  unfold maxLen at hm1 hm2
  unfold sbVal
  dsimp only
  have HW := Lib.hid hW
  have Hb := Lib.hid hw0
  have x0 := cell_of_row W _ 0 _ _ _ r0
  have y0 := cell_of_row W _ 0 _ _ _ r1
  have x3 := cell_of_row W _ 3 _ _ _ r0
  have y3 := cell_of_row W _ 3 _ _ _ r1
  have x5 := cell_of_row W _ 5 _ _ _ r0
  have y5 := cell_of_row W _ 5 _ _ _ r1
  have x6 := cell_of_row W _ 6 _ _ _ r0
  have y6 := cell_of_row W _ 6 _ _ _ r1
  have x7 := cell_of_row W _ 7 _ _ _ r0
  have y7 := cell_of_row W _ 7 _ _ _ r1
  clear hW r0 r1 hw0 hz
  by_cases e1 : i1 = j1
  · have p1 : (i1 == j1) = true := beq_iff_eq.2 e1
    have q1 : (i1 != j1) = false := by rw [bne, p1]; rfl
    have E1 := Lib.hid e1
    clear e1
    by_cases e2 : i4 = j4
    · have p2 : (i4.toList == j4.toList) = true := (sameS_iff i4 j4).2 e2
      have q2 : (i4.toList != j4.toList) = false := by rw [bne, p2]; rfl
      have E2 := Lib.hid e2
      clear e2
      by_cases e3 : su = tu
      · have p3 : (su == tu) = true := beq_iff_eq.2 e3
        have q3 : (su != tu) = false := by rw [bne, p3]; rfl
        have E3 := Lib.hid e3
        clear e3
        by_cases e4 : fa = ga
        · have p4 : (fa == ga) = true := beq_iff_eq.2 e4
          have q4 : (fa != ga) = false := by rw [bne, p4]; rfl
          have E4 := Lib.hid e4
          clear e4
          by_cases e5 : prs.length = qrs.length
          · have p5 : ((prs.length : Int) == (qrs.length : Int)) = true := beq_iff_eq.2 (by omega)
            have q5 : ((prs.length : Int) != (qrs.length : Int)) = false := by rw [bne, p5]; rfl
            have Hl := Lib.hid e5
            have hll : (prs.length : Int) ≤ (qrs.length : Int) := by omega
            have hll2 : (qrs.length : Int) ≤ (prs.length : Int) := by omega
            clear e5
            go_enter Tryz.func181, Tryz.ntmps181
            go_upto_region 1 with (fail)
            rw [← HW.out]
            go_wp2_with fail
            go_loop [45] (fun i => ∃ k : Nat, k ≤ prs.length ∧ i = .int .i64 k ∧ prs.take k = qrs.take k) (fun i => prs.length - (intOf i).toNat)
            case atStart => exact ⟨0, Nat.zero_le _, rfl, rfl⟩
            case round =>
              obtain ⟨k, hk, rfl, hn⟩ := hrel
              have Hn := Lib.hid hn
              clear hn
              by_cases hlt : k < prs.length
              · have hlt2 : k < qrs.length := by omega
                obtain ⟨av2, cap2, ee, -, -, hxx⟩ := HX.out
                cases ee
                obtain ⟨b1, o1, rfl, hB1, hxx⟩ := hxx (by rintro rfl; cases hlt)
                obtain ⟨u0, -⟩ := hxx k hlt
                obtain ⟨av3, cap3, ee, -, -, hyy⟩ := HY.out
                cases ee
                obtain ⟨b2, o2, rfl, hB2, hyy⟩ := hyy (by rintro rfl; cases hlt2)
                obtain ⟨v0, -⟩ := hyy k hlt2
                rw [Nat.mul_one] at u0 v0
                have hk0 : (0 : Int) ≤ (k : Int) := Int.natCast_nonneg _
                have hk1 : (k : Int) < (prs.length : Int) := by omega
                have hk2 : (k : Int) < (qrs.length : Int) := by omega
                have HS := Lib.hid (fun h => sub_snoc_eq hlt hlt2 Hn.out h)
                have HN := Lib.hid (fun h => @sub_ne_get _ prs qrs k hlt hlt2 h)
                clear hxx hyy
                generalize prs[k] = p at *
                generalize qrs[k] = q at *
                by_cases hpq : p = q
                · have HE := Lib.hid (HS.out hpq)
                  have hq1 : (p.toList == q.toList) = true := (sameS_iff p q).2 hpq
                  have hq2 : (p.toList != q.toList) = false := by rw [bne, hq1]; rfl
                  clear HS HN hpq
                  go_wp2
                  exact ⟨⟨k + 1, by omega, by go_num, HE.out⟩, by simp [intOf]; omega⟩
                · have HE := Lib.hid (show alikeB ⟨i1, i2, i3, i4, nus, prs, su, fa⟩ ⟨j1, j2, j3, j4, mus, qrs, tu, ga⟩ = false from alikeB_no (fun h => HN.out hpq (congrArg (·.prs) h)))
                  have hq1 : (p.toList == q.toList) = false := by
                    cases hq : (p.toList == q.toList) with
                    | false => rfl
                    | true => exact absurd ((sameS_iff p q).1 hq) hpq
                  have hq2 : (p.toList != q.toList) = true := by rw [bne, hq1]; rfl
                  clear HS HN hpq
                  go_wp2
                  go_ret
                  exact ⟨ret_bool HE.out.symm, Hb.out⟩
              · have HE := Lib.hid (show alikeB ⟨i1, i2, i3, i4, nus, prs, su, fa⟩ ⟨j1, j2, j3, j4, mus, qrs, tu, ga⟩ = true from alikeB_yes E1.out E2.out E3.out E4.out (take_all_eq Hl.out (Nat.le_of_not_lt hlt) Hn.out))
                go_wp2
                go_ret
                exact ⟨ret_bool HE.out.symm, Hb.out⟩
          · have p5 : ((prs.length : Int) == (qrs.length : Int)) = false := beq_eq_false_iff_ne.2 (by omega)
            have q5 : ((prs.length : Int) != (qrs.length : Int)) = true := by rw [bne, p5]; rfl
            have HE := Lib.hid (show alikeB ⟨i1, i2, i3, i4, nus, prs, su, fa⟩ ⟨j1, j2, j3, j4, mus, qrs, tu, ga⟩ = false from alikeB_no (fun h => e5 (by rw [show prs = qrs from congrArg (·.prs) h])))
            clear e5
            go_enter Tryz.func181, Tryz.ntmps181
            go_upto_region 1 with (fail)
            rw [← HW.out]
            go_wp2
            go_ret
            exact ⟨ret_bool HE.out.symm, Hb.out⟩
        · have p4 : (fa == ga) = false := beq_eq_false_iff_ne.2 e4
          have q4 : (fa != ga) = true := by rw [bne, p4]; rfl
          have HE := Lib.hid (show alikeB ⟨i1, i2, i3, i4, nus, prs, su, fa⟩ ⟨j1, j2, j3, j4, mus, qrs, tu, ga⟩ = false from alikeB_no (fun h => e4 (congrArg (·.fa) h)))
          clear e4
          go_enter Tryz.func181, Tryz.ntmps181
          go_upto_region 1 with (fail)
          rw [← HW.out]
          go_wp2
          go_ret
          exact ⟨ret_bool HE.out.symm, Hb.out⟩
      · have p3 : (su == tu) = false := beq_eq_false_iff_ne.2 e3
        have q3 : (su != tu) = true := by rw [bne, p3]; rfl
        have HE := Lib.hid (show alikeB ⟨i1, i2, i3, i4, nus, prs, su, fa⟩ ⟨j1, j2, j3, j4, mus, qrs, tu, ga⟩ = false from alikeB_no (fun h => e3 (congrArg (·.su) h)))
        clear e3
        go_enter Tryz.func181, Tryz.ntmps181
        go_upto_region 1 with (fail)
        rw [← HW.out]
        go_wp2
        go_ret
        exact ⟨ret_bool HE.out.symm, Hb.out⟩
    · have p2 : (i4.toList == j4.toList) = false := (by cases hq : (i4.toList == j4.toList) with | false => rfl | true => exact absurd ((sameS_iff i4 j4).1 hq) e2)
      have q2 : (i4.toList != j4.toList) = true := by rw [bne, p2]; rfl
      have HE := Lib.hid (show alikeB ⟨i1, i2, i3, i4, nus, prs, su, fa⟩ ⟨j1, j2, j3, j4, mus, qrs, tu, ga⟩ = false from alikeB_no (fun h => e2 (congrArg (·.plan) h)))
      clear e2
      go_enter Tryz.func181, Tryz.ntmps181
      go_upto_region 1 with (fail)
      rw [← HW.out]
      go_wp2
      go_ret
      exact ⟨ret_bool HE.out.symm, Hb.out⟩
  · have p1 : (i1 == j1) = false := beq_eq_false_iff_ne.2 e1
    have q1 : (i1 != j1) = true := by rw [bne, p1]; rfl
    have HE := Lib.hid (show alikeB ⟨i1, i2, i3, i4, nus, prs, su, fa⟩ ⟨j1, j2, j3, j4, mus, qrs, tu, ga⟩ = false from alikeB_no (fun h => e1 (congrArg (·.id) h)))
    clear e1
    go_enter Tryz.func181, Tryz.ntmps181
    go_upto_region 1 with (fail)
    rw [← HW.out]
    go_wp2
    go_ret
    exact ⟨ret_bool HE.out.symm, Hb.out⟩

set_option maxRecDepth 100000 in
set_option maxHeartbeats 1600000 in
theorem spells1_calls (p q : Int × SbX) (base : Nat) (w : World) (hp : SbO base w p.2) (hq : SbO base w q.2) :
    Calls Tryz.prog 180 #[mmVal p, mmVal q] w fun e w' => e = .returned (.bool (alikeB p.2.s q.2.s)) ∧ Below w.heap.size w w' := by
  have HE := Lib.hid (fun w1 (hb : Below w.heap.size w w1) => equal_calls p.2 q.2 w1 (hp.strs.below hb) (hq.strs.below hb))
  obtain ⟨t, ⟨⟨i1, i2, i3, i4, nus, prs, su, fa⟩, na, nn, nc, pa, pn, pc⟩⟩ := p
  obtain ⟨u, ⟨⟨j1, j2, j3, j4, mus, qrs, tu, ga⟩, ma, mn, mc, qa, qn, qc⟩⟩ := q
  dsimp only at HE
  unfold mmVal mmCells
  dsimp only [sbCells]
  clear hp hq
  go_enter Tryz.func180, Tryz.ntmps180
  go_wp2_with (go_at_call 181; refine (HE.out _ (by go_grown)).mono ?_; rintro e w1 ⟨rfl, hb1⟩)
  go_ret
  refine ⟨rfl, Below.trans ?_ (hb1.mono ?_)⟩
  · go_grown
  · simp; omega
set_option maxRecDepth 100000 in
set_option maxHeartbeats 1600000 in
theorem spells2_calls (p q : Int × SbX) (w : World) :
    Calls Tryz.prog 182 #[mmVal p, mmVal q] w fun e w' => e = .returned (mmVal p) ∧ Below w.heap.size w w' := by
  obtain ⟨t, ⟨⟨i1, i2, i3, i4, nus, prs, su, fa⟩, na, nn, nc, pa, pn, pc⟩⟩ := p
  obtain ⟨u, ⟨⟨j1, j2, j3, j4, mus, qrs, tu, ga⟩, ma, mn, mc, qa, qn, qc⟩⟩ := q
  unfold mmVal mmCells
  dsimp only [sbCells]
  obtain ⟨W, hW, r0, -, r2, hw0, hz⟩ := three_rows w (Obj.cells #[.int .i64 t, .int .i64 i1, .int .i64 i2, .int .i64 i3, .string i4, .slice na nn nc, .slice pa pn pc, .bool su, .bool fa] 239) (Obj.cells #[.int .i64 u, .int .i64 j1, .int .i64 j2, .int .i64 j3, .string j4, .slice ma mn mc, .slice qa qn qc, .bool tu, .bool ga] 239) (Obj.cells #[.int .i64 0, .int .i64 0, .int .i64 0, .int .i64 0, .string ⟨#[]⟩, .slice none 0 0, .slice none 0 0, .bool false, .bool false] 239)
  have x0 := cell_of_row W _ 0 _ _ _ r0
  have x1 := cell_of_row W _ 1 _ _ _ r0
  have x2 := cell_of_row W _ 2 _ _ _ r0
  have x3 := cell_of_row W _ 3 _ _ _ r0
  have x4 := cell_of_row W _ 4 _ _ _ r0
  have x5 := cell_of_row W _ 5 _ _ _ r0
  have x6 := cell_of_row W _ 6 _ _ _ r0
  have x7 := cell_of_row W _ 7 _ _ _ r0
  have x8 := cell_of_row W _ 8 _ _ _ r0
  have HbF := Lib.hid (below_setRow1 hw0 (show w.heap.size ≤ w.heap.size + 1 + 1 by omega) #[.int .i64 t, .int .i64 i1, .int .i64 i2, .int .i64 i3, .string i4, .slice na nn nc, .slice pa pn pc, .bool su, .bool fa])
  have t0 := cell_setRow_same W (w.heap.size + 1 + 1) 0 _ #[.int .i64 t, .int .i64 i1, .int .i64 i2, .int .i64 i3, .string i4, .slice na nn nc, .slice pa pn pc, .bool su, .bool fa] _ _ r2
  have t1 := cell_setRow_same W (w.heap.size + 1 + 1) 1 _ #[.int .i64 t, .int .i64 i1, .int .i64 i2, .int .i64 i3, .string i4, .slice na nn nc, .slice pa pn pc, .bool su, .bool fa] _ _ r2
  have t2 := cell_setRow_same W (w.heap.size + 1 + 1) 2 _ #[.int .i64 t, .int .i64 i1, .int .i64 i2, .int .i64 i3, .string i4, .slice na nn nc, .slice pa pn pc, .bool su, .bool fa] _ _ r2
  have t3 := cell_setRow_same W (w.heap.size + 1 + 1) 3 _ #[.int .i64 t, .int .i64 i1, .int .i64 i2, .int .i64 i3, .string i4, .slice na nn nc, .slice pa pn pc, .bool su, .bool fa] _ _ r2
  have t4 := cell_setRow_same W (w.heap.size + 1 + 1) 4 _ #[.int .i64 t, .int .i64 i1, .int .i64 i2, .int .i64 i3, .string i4, .slice na nn nc, .slice pa pn pc, .bool su, .bool fa] _ _ r2
  have t5 := cell_setRow_same W (w.heap.size + 1 + 1) 5 _ #[.int .i64 t, .int .i64 i1, .int .i64 i2, .int .i64 i3, .string i4, .slice na nn nc, .slice pa pn pc, .bool su, .bool fa] _ _ r2
  have t6 := cell_setRow_same W (w.heap.size + 1 + 1) 6 _ #[.int .i64 t, .int .i64 i1, .int .i64 i2, .int .i64 i3, .string i4, .slice na nn nc, .slice pa pn pc, .bool su, .bool fa] _ _ r2
  have t7 := cell_setRow_same W (w.heap.size + 1 + 1) 7 _ #[.int .i64 t, .int .i64 i1, .int .i64 i2, .int .i64 i3, .string i4, .slice na nn nc, .slice pa pn pc, .bool su, .bool fa] _ _ r2
  have t8 := cell_setRow_same W (w.heap.size + 1 + 1) 8 _ #[.int .i64 t, .int .i64 i1, .int .i64 i2, .int .i64 i3, .string i4, .slice na nn nc, .slice pa pn pc, .bool su, .bool fa] _ _ r2
  have HW := Lib.hid hW
  have R2 := Lib.hid r2
  clear hW r0 r2 hw0 hz
  go_enter Tryz.func182, Tryz.ntmps182
  go_upto_region 1 with (fail)
  rw [← HW.out]
  repeat (first | refine wpList_store_row rfl _ _ _ rfl (w.heap.size + 1 + 1) #[.int .i64 t, .int .i64 i1, .int .i64 i2, .int .i64 i3, .string i4, .slice na nn nc, .slice pa pn pc, .bool su, .bool fa] rfl rfl 239 _ R2.out (by kernel_rfl) rfl (by simp [Value.oneCell']) ?_ | go_step)
  exact bodyPost_ret (v := .agg #[.int .i64 t, .int .i64 i1, .int .i64 i2, .int .i64 i3, .string i4, .slice na nn nc, .slice pa pn pc, .bool su, .bool fa]) (by simp [results, Tryz.results182, go_sem, t0, t1, t2, t3, t4, t5, t6, t7, t8]) rfl ⟨rfl, HbF.out⟩
end Go.Proofs.YtngippiilgdnoaaGreat

namespace Go.Proofs.YtngippiilgdnoaaGreat
open Go.RowKit

theorem per_one2 (p : Int × Int) : ∀ u ∈ perCells p, u.oneCell' = true := by
  intro u hu
  unfold perCells at hu
  simp only [List.mem_cons, List.not_mem_nil, or_false] at hu
  rcases hu with rfl | rfl <;> rfl
set_option maxHeartbeats 1600000 in
theorem during1_calls (a b c d : Int) (w : World) : Calls Tryz.prog 146 #[.agg #[.int .i64 a, .int .i64 b], .agg #[.int .i64 c, .int .i64 d]] w fun e w' => e = .returned (.bool (decide (b = c))) ∧ Below w.heap.size w w' := by
  by_cases h : b = c
  · have e1 : (b == c) = true := beq_iff_eq.2 h
    have HE := Lib.hid (show decide (b = c) = true from decide_eq_true h)
    clear h
    go_enter Tryz.func146, Tryz.ntmps146
    go_wp2
    go_ret
    exact ⟨ret_bool HE.out.symm, by go_grown⟩
  · have e1 : (b == c) = false := beq_eq_false_iff_ne.2 h
    have HE := Lib.hid (show decide (b = c) = false from decide_eq_false h)
    clear h
    go_enter Tryz.func146, Tryz.ntmps146
    go_wp2
    go_ret
    exact ⟨ret_bool HE.out.symm, by go_grown⟩
set_option maxHeartbeats 1600000 in
theorem during2_calls (a b c d : Int) (w : World) : Calls Tryz.prog 147 #[.agg #[.int .i64 a, .int .i64 b], .agg #[.int .i64 c, .int .i64 d]] w fun e w' => e = .returned (.agg #[.int .i64 a, .int .i64 d]) ∧ Below w.heap.size w w' := by
  go_enter Tryz.func147, Tryz.ntmps147
  go_wp2
  refine bodyPost_ret (v := .agg #[.int .i64 a, .int .i64 d]) (by simp [results, Tryz.results147, go_sem]) rfl ⟨rfl, ?_⟩
  go_grown

set_option maxRecDepth 100000 in
set_option maxHeartbeats 12800000 in
theorem joinedP_calls  (v : Value) (L : List (Int × Int)) (w : World) (h : RecAt perCells 2 w v L) (hl : L.length ≤ 10000) :
    Calls Tryz.prog 145 #[v, .func (.func 146) #[] #[], .func (.func 147) #[] #[]] w (PersTo w (joinP L)) := by
  have HA := Lib.hid h

  obtain ⟨av, cap, rfl, hcl, hcm⟩ := rec_shape h
  unfold maxLen at hcm
  clear h
  go_enter Tryz.func145, Tryz.ntmps145
  go_wp2_with fail
  go_loopw [7, 13] (fun vo i wr => ∃ (k : Nat) (O : List (Int × Int)), k ≤ L.length ∧ i = .int .i64 k ∧ RowKit.Hid (O = joinP (L.take k)) ∧ wr.ownsRow w.heap.size 25 2 vo O.length (O.flatMap perCells) ∧ Below w.heap.size w wr) (fun _ i _ => L.length - (intOf i).toNat)
  case atStart => exact ⟨0, [], Nat.zero_le _, rfl, Lib.hid (rfl), World.ownsRow_nil _ _ _ _, Below.refl _ _⟩
  case round =>
    obtain ⟨wo, rfl⟩ : ∃ wo : World, wo = wr := ⟨_, rfl⟩
    obtain ⟨k, O, hk, rfl, HP, hown, hb⟩ := hrel
    obtain ⟨a, cp, rfl, hc1, hc2⟩ := own_shape hown
    unfold maxLen at hc2
    have Hown := Lib.hid hown
    have Hb := Lib.hid hb
    have hOl : O.length ≤ k := by rw [HP.out]; exact joinP_len L k hk
    by_cases hlt : k < L.length
    · have hk1 : (k : Int) < (L.length : Int) := by omega
      have hk0 : (0 : Int) ≤ (k : Int) := Int.natCast_nonneg _
      have HTk := Lib.hid (joinP_take L k hlt)

      obtain ⟨a2, c2, e2, -, -, hx⟩ := (HA.out.below hb)
      cases e2
      obtain ⟨bb, o, rfl, hB, hx⟩ := hx (by rintro rfl; cases hlt)
      have hx := hx k hlt
      have x0 : wo.cell? ⟨bb, o + k * 2, none⟩ = some (.int .i64 (L[k]).1) := hx 0 (by decide)
      have x1c : wo.cell? ⟨bb, o + k * 2 + 1, none⟩ = some (.int .i64 (L[k]).2) := hx 1 (by decide)
      clear hx hB hown hb
      generalize L[k] = x at *
      obtain ⟨x1, x2⟩ := x
      dsimp only at x0 x1c HTk
      obtain ⟨Y, hY⟩ : ∃ Y, Y = wo.alloc (Obj.cells #[.int .i64 x1, .int .i64 x2] 25) := ⟨_, rfl⟩
      have hbY : Below wo.heap.size wo Y := by rw [hY]; go_grown
      have HYr := Lib.hid (show Y.heap[wo.heap.size]? = some (Obj.cells #[.int .i64 x1, .int .i64 x2] 25) by rw [hY]; exact heap_alloc_new _ _)
      have HbY := Lib.hid (Hb.out.trans (hbY.mono Hb.out.size))
      have HownY := Lib.hid (ownsRow_below Hown.out hbY)
      have HY := Lib.hid hY
      have hwY : wo.heap.size < Y.heap.size := (Array.getElem?_eq_some_iff.1 HYr.out).1
      clear hbY hY
      go_upto_region 6 with (fail)
      rw [← HY.out]
      by_cases hO : O = []
      · subst hO
        have hj0 : decide ((0 : Int) < 0) = false := by decide
        go_big_quiet (fail)
        obtain ⟨w2, hV⟩ : ∃ w2, w2 = Y.drewN nq := ⟨_, rfl⟩
        have hY2 : Below Y.heap.size Y w2 := by rw [hV]; exact below_drewN2 (Below.refl _ _) _
        rw [← hV]
        clear hV x0 x1c
        have HbA := Lib.hid (HbY.out.trans (hY2.mono HbY.out.size))
        have HownA := Lib.hid (ownsRow_below HownY.out hY2)
        have rA := (hY2.block _ hwY).trans HYr.out
        have c0 := cell_of_row w2 _ 0 _ _ _ rA
        have c1 := cell_of_row w2 _ 1 _ _ _ rA
        have hbs := HbA.out.size
        have HX := Lib.hid (RecAt.one (c := perCells) (sz := 2) w2 (x1, x2) 25 #[.int .i64 x1, .int .i64 x2] rfl)
        clear rA hY2
        go_upto_region 8 with (fail)
        go_wp2_with (at_builtin; refine append_rec2 (c := perCells) (sz := 2) (fun _ => rfl) per_one2 25 85 _ 16 Tryz.underlying85 Tryz.perInfo rfl (by decide) rfl _ _ rfl w.heap.size ?hs _ _ [] [(x1, x2)] rfl rfl (HownA.out.alloc _) HX.out ?hl ?hb ?_)
        case hs => simp <;> omega
        case hl => unfold maxLen; simp <;> omega
        case hb => simp <;> omega
        intro R hR v5 w5 own5 hg5
        have HRe := Lib.hid (show R = [] ++ [(x1, x2)] by rw [hR.out]; first | rfl | simp)
        have Own5 := Lib.hid own5
        have Hb5 := Lib.hid ((HbA.out.alloc hbs _).grown hg5 (by simp <;> omega) (fun g hg => (ownsRow_block HownA.out g hg).1))
        clear own5 hg5 hR hbs
        go_wp2
        exact ⟨⟨k + 1, R, by omega, by go_num, Lib.hid (by rw [HRe.out, HTk.out, ← HP.out]; exact rfl), Own5.out, Hb5.out⟩, by simp [intOf]; omega⟩
      · obtain ⟨M, q, rfl⟩ : ∃ M q, O = M ++ [q] := ⟨_, _, (List.dropLast_concat_getLast hO).symm⟩
        clear hO
        obtain ⟨g0, rfl, hln, hgB, hgl, hownM, hcell⟩ := own_last (c := perCells) (sz := 2) (fun _ => rfl) HownY.out
        have HownM := Lib.hid hownM
        have z0 : Y.cell? ⟨g0, M.length * 2, none⟩ = some (.int .i64 q.1) := hcell 0 (by decide)
        have z1 : Y.cell? ⟨g0, M.length * 2 + 1, none⟩ = some (.int .i64 q.2) := hcell 1 (by decide)
        rw [hln] at hc1 hOl ⊢
        have hj1 : IntKind.i64.wrap ((M.length : Int) + 1 - 1) = (M.length : Int) := by rw [Int.add_sub_cancel]; exact IntWalk.i64_in _ (by omega)
        have hj2 : (0 : Int) < (M.length : Int) + 1 := by omega
        have hj3 : ((M.length : Int) + 1).toNat = M.length + 1 := by omega
        have hj4 : IntKind.i64.wrap (M.length : Int) = (M.length : Int) := IntWalk.i64_in _ (by omega)
        have hj5 : (0 : Int) ≤ (M.length : Int) := Int.natCast_nonneg _
        have hj6 : (M.length : Int) < (M.length : Int) + 1 := by omega
        have J := Lib.hid (And.intro hj1 (And.intro hj2 (And.intro hj3 (And.intro hj4 (And.intro hj5 hj6)))))
        clear hownM hcell
        obtain ⟨q1, q2⟩ := q
        dsimp only at z0 z1
        have HownL := Lib.hid (show Y.ownsRow w.heap.size 25 2 (.slice (some ⟨g0, 0, none⟩) (M.length + 1) cp) (M ++ [(q1, q2)]).length ((M ++ [(q1, q2)]).flatMap perCells) by rw [show (M ++ [(q1, q2)]).length = M.length + 1 by simp]; exact HownM.out)
        have Hyc := Lib.hid (show ∀ p : BelowOf Y, p.w.cell? ⟨wo.heap.size, 0, none⟩ = some (.int .i64 x1) ∧ p.w.cell? ⟨wo.heap.size, 1, none⟩ = some (.int .i64 x2) from fun p => by
          have r := (p.h.block _ hwY).trans HYr.out
          exact ⟨cell_of_row p.w _ 0 _ _ _ r, cell_of_row p.w _ 1 _ _ _ r⟩)
        have Hzc := Lib.hid (show ∀ p : BelowOf Y, p.w.cell? ⟨g0, M.length * 2, none⟩ = some (.int .i64 q1) ∧ p.w.cell? ⟨g0, M.length * 2 + 1, none⟩ = some (.int .i64 q2) from fun p => ⟨BelowOf.cell (a := ⟨g0, M.length * 2, none⟩) hgl z0 p, BelowOf.cell (a := ⟨g0, M.length * 2 + 1, none⟩) hgl z1 p⟩)
        have HT1 := Lib.hid (show ∀ W, Below Y.heap.size Y W → Calls Tryz.prog 146 #[.agg #[.int .i64 q1, .int .i64 q2], .agg #[.int .i64 x1, .int .i64 x2]] W fun e w' => e = .returned (.bool (decide (q2 = x1))) ∧ Below W.heap.size W w' from fun W hW => during1_calls q1 q2 x1 x2 W)
        have hrr := Below.refl Y.heap.size Y
        have y0 := fun p : BelowOf Y => (Hyc.out p).1
        have y1 := fun p : BelowOf Y => (Hyc.out p).2
        have u0 := fun p : BelowOf Y => (Hzc.out p).1
        have u1 := fun p : BelowOf Y => (Hzc.out p).2
        clear x0 x1c z0 z1
        cases htg : decide (q2 = x1) with
        | true =>
          rw [htg] at HT1
          have Htg := Lib.hid htg
          clear htg
          refine wp_region_quiet_below hrr (by kernel_rfl) (by kernel_rfl) ?_
          repeat (go_big_quiet_step (first | (go_at_call 146; refine calls_below_of (HT1.out _ (BelowOf.h _)) (fun e w' h => h))))
          refine wpQuiet_nil ?_
          intro w2 hw2
          have hY2 : Below Y.heap.size Y w2 := by obtain ⟨pq, rfl⟩ := hw2; exact pq.h
          clear hw2 y0 y1 u0 u1 hrr
          have HY2 := Lib.hid hY2
          have Hown2 := Lib.hid (ownsRow_below HownM.out hY2)
          have HT2 := Lib.hid (show ∀ W, Below w2.heap.size w2 W → Calls Tryz.prog 147 #[.agg #[.int .i64 q1, .int .i64 q2], .agg #[.int .i64 x1, .int .i64 x2]] W fun e w' => e = .returned (.agg #[.int .i64 q1, .int .i64 x2]) ∧ Below W.heap.size W w' from fun W hW => during2_calls q1 q2 x1 x2 W)
          have HC2 := Lib.hid (show ∀ W, Below w2.heap.size w2 W → (W.cell? ⟨wo.heap.size, 0, none⟩ = some (.int .i64 x1) ∧ W.cell? ⟨wo.heap.size, 1, none⟩ = some (.int .i64 x2)) ∧ (W.cell? ⟨g0, M.length * 2, none⟩ = some (.int .i64 q1) ∧ W.cell? ⟨g0, M.length * 2 + 1, none⟩ = some (.int .i64 q2)) from fun W hW => by
            have hh := HY2.out.trans (hW.mono HY2.out.size)
            exact ⟨Hyc.out ⟨W, hh⟩, Hzc.out ⟨W, hh⟩⟩)
          have HG := Lib.hid (show ∀ W, Below w2.heap.size w2 W → W.ownsRow w.heap.size 25 2 (.slice (some ⟨g0, 0, none⟩) (M.length + 1) cp) (M.length + 1) ((M ++ [(q1, q2)]).flatMap perCells) from fun W hW => ownsRow_below Hown2.out hW)
          clear hY2 HT1
          go_upto_region 7 with (fail)
          refine wp_region_free2 (fun W => Below w2.heap.size w2 W) (fun i v _ => v = (match i with | 0 => .slice (some ⟨g0, 0, none⟩) (M.length + 1) cp | 1 => .int .i64 ((M.length : Int) + 1) | 2 => .int .i64 (M.length : Int) | 3 => .func (.func 147) #[] #[] | 4 => .slice (some ⟨g0, 0, none⟩) (M.length + 1) cp | 5 => .int .i64 ((M.length : Int) + 1) | 6 => .int .i64 (M.length : Int) | 7 => .pointer (some ⟨g0, M.length * 2, none⟩) | 8 => .agg #[.int .i64 q1, .int .i64 q2] | 9 => .agg #[.int .i64 x1, .int .i64 x2] | 10 => .agg #[.int .i64 q1, .int .i64 x2] | 11 => .pointer (some ⟨g0, M.length * 2, none⟩) | _ => v)) (by kernel_rfl) (by decide) (by kernel_rfl) (Below.refl _ _).drew ?_
          generalize hfr : (fun v : Nat → Value => _) = fr
          simp only [List.map_cons, List.map_nil, putsL, List.setIfInBounds_toArray, List.set_cons_succ, List.set_cons_zero, Nat.zero_add, Nat.reduceAdd] at hfr
          simp only [FreeOps]
          refine ⟨?_, ?_, ?_, ?_, ?_, ?_, ?_, ?_, ?_, ?_, ?_, ?_, ?_⟩
          · intro v w3 hC hd K hK
            rw [← hfr] at hK ⊢
            go_simp
            exact hK _ _ hC (fun _ _ h => h) rfl
          · intro v w3 hC hd K hK
            rw [← hfr] at hK ⊢
            go_simp
            exact hK _ _ hC (fun _ _ h => h) rfl
          · intro v w3 hC hd K hK
            obtain ⟨f1, -⟩ := hd
            have e1 : v 1 = _ := f1
            obtain ⟨hj1, hj2, hj3, hj4, hj5, hj6⟩ := J.out
            rw [← hfr] at hK ⊢
            simp only [e1] at hK ⊢
            go_simp
            exact hK _ _ hC (fun _ _ h => h) rfl
          · intro v w3 hC hd K hK
            rw [← hfr] at hK ⊢
            go_simp
            exact hK _ _ hC (fun _ _ h => h) rfl
          · intro v w3 hC hd K hK
            rw [← hfr] at hK ⊢
            go_simp
            exact hK _ _ hC (fun _ _ h => h) rfl
          · intro v w3 hC hd K hK
            rw [← hfr] at hK ⊢
            go_simp
            exact hK _ _ hC (fun _ _ h => h) rfl
          · intro v w3 hC hd K hK
            obtain ⟨f5, -⟩ := hd
            have e5 : v 5 = _ := f5
            obtain ⟨hj1, hj2, hj3, hj4, hj5, hj6⟩ := J.out
            rw [← hfr] at hK ⊢
            simp only [e5] at hK ⊢
            go_simp
            exact hK _ _ hC (fun _ _ h => h) rfl
          · intro v w3 hC hd K hK
            obtain ⟨f4, f6, -⟩ := hd
            have e4 : v 4 = _ := f4
            have e6 : v 6 = _ := f6
            obtain ⟨hj1, hj2, hj3, hj4, hj5, hj6⟩ := J.out
            rw [← hfr] at hK ⊢
            simp only [e4, e6] at hK ⊢
            go_simp
            exact hK _ _ hC (fun _ _ h => h) rfl
          · intro v w3 hC hd K hK
            obtain ⟨f7, -⟩ := hd
            have e7 : v 7 = _ := f7
            obtain ⟨-, c0, c1⟩ := HC2.out w3 hC
            rw [← hfr] at hK ⊢
            simp only [e7] at hK ⊢
            go_simp
            exact hK _ _ hC (fun _ _ h => h) rfl
          · intro v w3 hC hd K hK
            obtain ⟨⟨c0, c1⟩, -⟩ := HC2.out w3 hC
            rw [← hfr] at hK ⊢
            go_simp
            exact hK _ _ hC (fun _ _ h => h) rfl
          · intro v w3 hC hd K hK
            obtain ⟨f3, f8, f9, -⟩ := hd
            have e3 : v 3 = _ := f3
            have e8 : v 8 = _ := f8
            have e9 : v 9 = _ := f9
            rw [← hfr] at hK ⊢
            simp only [e3, e8, e9] at hK ⊢
            go_simp
            refine (HT2.out w3 hC).mono ?_
            rintro e w4 ⟨rfl, hb4⟩
            exact hK _ _ (hC.trans (hb4.mono hC.size)) (fun _ _ h => h) rfl
          · intro v w3 hC hd K hK
            obtain ⟨f0, f2, -⟩ := hd
            have e0 : v 0 = _ := f0
            have e2 : v 2 = _ := f2
            obtain ⟨hj1, hj2, hj3, hj4, hj5, hj6⟩ := J.out
            rw [← hfr] at hK ⊢
            simp only [e0, e2] at hK ⊢
            go_simp
            exact hK _ _ hC (fun _ _ h => h) rfl
          · intro v w3 hC hall
            obtain ⟨-, e10, e11⟩ : _ ∧ v 10 = _ ∧ v 11 = _ := ⟨trivial, hall.1.2, hall.2⟩
            have hownG := HG.out w3 hC
            obtain ⟨so, sg⟩ := own_setCells (perCells (q1, x2)) _ (M.length * 2) _ hownG
            rw [show M.length * 2 = M.length * 2 + 0 from rfl, flat_last_set (c := perCells) (sz := 2) (fun _ => rfl) M (q1, q2) (q1, x2) 0 (perCells (q1, x2)) rfl rfl] at so
            refine wp_store_mid _ _ _ rfl g0 (M.length * 2) (perCells (q1, x2)).toArray (by rw [← hfr]; exact e11) (by rw [← hfr]; exact e10) (own_there2 hownG (M.length * 2) 2 (by omega)) (by kernel_rfl) (by simp [perCells, Value.oneCell']) ?_
            have SO := Lib.hid (show (w3.setCells g0 (M.length * 2) (perCells (q1, x2)).toArray.toList).ownsRow w.heap.size 25 2 (.slice (some ⟨g0, 0, none⟩) (M.length + 1) cp) (M ++ [(q1, x2)]).length ((M ++ [(q1, x2)]).flatMap perCells) by rw [List.length_append, List.length_singleton]; exact so)
            have SB := Lib.hid (show Below w.heap.size w (w3.setCells g0 (M.length * 2) (perCells (q1, x2)).toArray.toList) from ((HbY.out.trans (HY2.out.mono HbY.out.size)).trans (hC.mono (by have := HY2.out.size; have := HbY.out.size; omega))).grown sg (by have := HY2.out.size; have := HbY.out.size; have := hC.size; omega) (fun g hg => by cases hg; exact hgB))
            rw [← hfr]
            generalize (w3.setCells g0 (M.length * 2) (perCells (q1, x2)).toArray.toList) = w4 at *
            clear so sg hownG
            generalize v 0 = y0, v 1 = y1, v 2 = y2, v 3 = y3, v 4 = y4, v 5 = y5, v 6 = y6, v 7 = y7, v 8 = y8, v 9 = y9, v 10 = y10, v 11 = y11
            clear hfr hall hC e10 e11
            have HE := Lib.hid (chStep_eq M (q1, q2) x1 x2 (of_decide_eq_true Htg.out))
            obtain ⟨hj1, hj2, hj3, hj4, hj5, hj6⟩ := J.out
            go_wp2
            exact ⟨⟨k + 1, M ++ [(q1, x2)], by omega, by go_num, Lib.hid (by rw [HTk.out, ← HP.out]; exact HE.out.symm), SO.out, SB.out⟩, by simp [intOf]; omega⟩
        | false =>
          rw [htg] at HT1
          have Htg := Lib.hid htg
          clear htg
          refine wp_region_quiet_below hrr (by kernel_rfl) (by kernel_rfl) ?_
          repeat (go_big_quiet_step (first | (go_at_call 146; refine calls_below_of (HT1.out _ (BelowOf.h _)) (fun e w' h => h))))
          refine wpQuiet_nil ?_
          intro w2 hw2
          have hY2 : Below Y.heap.size Y w2 := by obtain ⟨pq, rfl⟩ := hw2; exact pq.h
          clear hw2 y0 y1 u0 u1 hrr hj1 hj2 hj3 hj4 hj5 hj6
          have HbA := Lib.hid (HbY.out.trans (hY2.mono HbY.out.size))
          have HownA := Lib.hid (ownsRow_below HownL.out hY2)
          have rA := (hY2.block _ hwY).trans HYr.out
          have c0 := cell_of_row w2 _ 0 _ _ _ rA
          have c1 := cell_of_row w2 _ 1 _ _ _ rA
          have hbs := HbA.out.size
          have HX := Lib.hid (RecAt.one (c := perCells) (sz := 2) w2 (x1, x2) 25 #[.int .i64 x1, .int .i64 x2] rfl)
          clear rA hY2
          go_upto_region 8 with (fail)
          go_wp2_with (at_builtin; refine append_rec2 (c := perCells) (sz := 2) (fun _ => rfl) per_one2 25 85 _ 16 Tryz.underlying85 Tryz.perInfo rfl (by decide) rfl _ _ rfl w.heap.size ?hs _ _ (M ++ [(q1, q2)]) [(x1, x2)] rfl rfl (HownA.out.alloc _) HX.out ?hl ?hb ?_)
          case hs => simp <;> omega
          case hl => unfold maxLen; simp <;> omega
          case hb => simp <;> omega
          intro R hR v5 w5 own5 hg5
          have HRe := Lib.hid (show R = (M ++ [(q1, q2)]) ++ [(x1, x2)] by rw [hR.out]; first | rfl | simp)
          have Own5 := Lib.hid own5
          have Hb5 := Lib.hid ((HbA.out.alloc hbs _).grown hg5 (by simp <;> omega) (fun g hg => (ownsRow_block HownA.out g hg).1))
          clear own5 hg5 hR hbs
          go_wp2
          exact ⟨⟨k + 1, R, by omega, by go_num, Lib.hid (by rw [HRe.out, HTk.out, ← HP.out]; exact (chStep_ne M (q1, q2) x1 x2 (of_decide_eq_false Htg.out)).symm), Own5.out, Hb5.out⟩, by simp [intOf]; omega⟩
    · have HE := Lib.hid (show O = joinP L by rw [HP.out, List.take_of_length_le (by omega)])
      go_wp2
      go_ret
      exact ⟨_, rfl, by rw [← HE.out]; exact PersAt.own Hown.out, Hb.out⟩
end Go.Proofs.YtngippiilgdnoaaGreat
