/-
  The walks of a list of texts without one, and of a subscription after an event about it.
-/
import Derived.Test.YtngippiilgdnoaaGreatMkaw
import Derived.Test.YtngippiilgdnoaaGreatMkao
set_option maxRecDepth 100000
set_option maxHeartbeats 25600000
namespace Go.Proofs.YtngippiilgdnoaaGreat
open Go.RowKit
theorem withoutT_take (L : List ByteArray) (s : ByteArray) (k : Nat) (h : k < L.length) : withoutT (L.take (k + 1)) s = if sameS L[k] s = true then withoutT (L.take k) s else withoutT (L.take k) s ++ [L[k]] := by
 unfold withoutT
 rw [List.take_succ_eq_append_getElem h, List.filter_append]
 cases hb : sameS L[k] s <;> simp [hb]
theorem withoutT_sizes {L : List ByteArray} {s : ByteArray} (h : ∀ x ∈ L, x.size ≤ maxLen) : ∀ x ∈ withoutT L s, x.size ≤ maxLen := fun x hx => h x (List.mem_filter.1 hx).1
theorem without_calls (v : Value) (L : List ByteArray) (s : ByteArray) (w : World) (h : StrsAt w v L) (hl : L.length ≤ 10000) :
 Calls Tryz.prog 157 #[v, .string s] w (StrsTo (withoutT L s) w) := by
 have HA := hZ9 h
 have HSz := hZ9 (withoutT_sizes (s := s) (strs_sizes h))
 have HLe := hZ9 (fun k => withoutT_len (L.take k) s)
 obtain ⟨aa, an, rfl, hla, hma, -⟩ := h
 have hma := hma.1
 unfold maxLen at hma
 go_enter Tryz.func157, Tryz.ntmps157
 go_wp2_with fail
 go_loopw [5, 6] (fun vo i wr => ∃ k : Nat, k ≤ L.length ∧ i = .int .i64 k ∧ wr.ownsRow w.heap.size 9 1 vo (withoutT (L.take k) s).length ((withoutT (L.take k) s).flatMap strCells) ∧ Below w.heap.size w wr) (fun _ i _ => L.length - (intOf i).toNat)
 case atStart => exact ⟨0, Nat.zero_le _, rfl, World.ownsRow_nil _ _ _ _, Below.refl _ _⟩
 case round =>
  obtain ⟨wo, rfl⟩ : ∃ wo : World, wo = wr := ⟨_, rfl⟩
  obtain ⟨k, hk, rfl, hown, hb⟩ := hrel
  obtain ⟨ao, co, rfl, hco, hcm⟩ := own_shape hown
  have Hown := hZ9 hown
  have Hb := hZ9 hb
  have hlk := HLe.out k
  rw [List.length_take] at hlk
  by_cases hlt : k < L.length
  · have hk1 : (k : Int) < (L.length : Int) := by omega
    have hk0 : (0 : Int) ≤ (k : Int) := Int.natCast_nonneg _
    have HS := hZ9 (withoutT_take L s k hlt)
    obtain ⟨a2, n2, e2, -, -, hx⟩ := HA.out.below hb
    cases e2
    obtain ⟨bb, o, rfl, hB, hx⟩ := hx (by rintro rfl; cases hlt)
    obtain ⟨x0, -⟩ := hx k hlt
    rw [Nat.mul_one] at x0
    clear hx hb hown
    obtain ⟨R, hR⟩ : ∃ R, R = withoutT (L.take k) s := ⟨_, rfl⟩
    rw [← hR] at HS Hown hlk hco ⊢
    clear hR
    generalize L[k] = a at *
    have hRb : R.length ≤ 10000 := by omega
    cases hq : sameS a s with
    | true =>
      have HE := hZ9 (HS.out.trans (if_pos hq))
      have hq1 : (a.toList == s.toList) = true := hq
      have hq2 : (a.toList != s.toList) = false := by rw [bne, hq1]; rfl
      clear hq
      go_wp2
      exact ⟨⟨k + 1, by omega, by go_num, by rw [HE.out]; exact Hown.out, Hb.out⟩, by simp [intOf]; omega⟩
    | false =>
      have HE := hZ9 (HS.out.trans (if_neg (by rw [hq]; decide)))
      have hq1 : (a.toList == s.toList) = false := hq
      have hq2 : (a.toList != s.toList) = true := by rw [bne, hq1]; rfl
      have hbs := Hb.out.size
      have HX := hZ9 (RecAt.one (c := strCells) (sz := 1) wo a 9 #[.string a] rfl)
      clear hq
      go_wp2_with (at_builtin; refine append_txs rfl _ _ rfl w.heap.size ?hs1 _ _ R [a] rfl rfl (Hown.out.alloc _) HX.out ?hl1 ?_)
      case hs1 => simp; omega
      case hl1 => simp; omega
      intro R2 hR2 v4 w4 own4 hb4
      have Hb4 := hZ9 ((Hb.out.alloc hbs (Obj.cells #[.string a] 9)).trans hb4)
      have Own4 := hZ9 own4
      have HR := hZ9 (hR2.out.trans HE.out.symm)
      clear own4 hb4 hR2
      go_wp2
      exact ⟨⟨k + 1, by omega, by go_num, by rw [← HR.out]; exact Own4.out, Hb4.out⟩, by simp [intOf]; omega⟩
  have HE := hZ9 (show withoutT (L.take k) s = withoutT L s by rw [List.take_of_length_le (by omega)])
  clear hb hown hlk
  obtain ⟨R, hR⟩ : ∃ R, R = withoutT (L.take k) s := ⟨_, rfl⟩
  rw [← hR] at HE Hown hco ⊢
  clear hR
  go_wp2
  go_ret
  exact strsTo Hown.out HE.out HSz.out Hb.out
theorem below_setRow1 {B g : Nat} {a w : World} (h : Below B a w) (hg : B ≤ g) (cs : Array Value) : Below B a (w.setRow g cs) :=
 h.trans ⟨rfl, rfl, rfl, by simp, fun k hk => setRow_other _ _ _ _ (by omega)⟩
def KeptN (B : Nat) (na na' : Option Addr) (nn nn' nc nc' : Nat) (l l' : List ByteArray) : Prop := (na' = na ∧ nn' = nn ∧ nc' = nc ∧ l' = l) ∨ FreshA B na'
def ChTo (x0 : SbX) (s : Sb) (w : World) (e : Ending) (w' : World) : Prop := ∃ x : SbX, e = .returned (sbVal x) ∧ x.s = s ∧ SbRd w' x ∧ KeptN w.heap.size x0.na x.na x0.nn x.nn x0.nc x.nc x0.s.nus x.s.nus ∧ KeptN w.heap.size x0.pa x.pa x0.pn x.pn x0.pc x.pc x0.s.prs x.s.prs ∧ Below w.heap.size w w'
theorem chTo {x0 : SbX} {s : Sb} {w w' : World} {i1 i2 i3 : Int} {i4 : ByteArray} {nus prs : List ByteArray} {su fa : Bool} {na pa : Option Addr} {nn nc pn pc : Nat} (h : (⟨i1, i2, i3, i4, nus, prs, su, fa⟩ : Sb) = s)
 (h1 : StrsAt w' (.slice na nn nc) nus) (h2 : StrsAt w' (.slice pa pn pc) prs) (h3 : i4.size ≤ maxLen) (h4 : PlainA na) (h5 : PlainA pa) (k1 : KeptN w.heap.size x0.na na x0.nn nn x0.nc nc x0.s.nus nus) (k2 : KeptN w.heap.size x0.pa pa x0.pn pn x0.pc pc x0.s.prs prs) (hb : Below w.heap.size w w') :
 ChTo x0 s w (.returned (.agg #[.int .i64 i1, .int .i64 i2, .int .i64 i3, .string i4, .slice na nn nc, .slice pa pn pc, .bool su, .bool fa])) w' :=
 ⟨⟨⟨i1, i2, i3, i4, nus, prs, su, fa⟩, na, nn, nc, pa, pn, pc⟩, rfl, h, ⟨h1, h2, h3, h4, h5⟩, k1, k2, hb⟩
theorem FreshA.mono {B B' : Nat} {a : Option Addr} (h : FreshA B a) (hb : B' ≤ B) : FreshA B' a := fun ad e => ⟨(h ad e).1, Nat.le_trans hb (h ad e).2⟩
theorem three_rows (w : World) (o1 o2 o3 : Obj) : ∃ W, W = ((w.alloc o1).alloc o2).alloc o3 ∧ W.heap[w.heap.size]? = some o1 ∧ W.heap[w.heap.size + 1]? = some o2 ∧ W.heap[w.heap.size + 1 + 1]? = some o3 ∧ Below w.heap.size w W ∧ w.heap.size + 1 + 1 < W.heap.size := by
 obtain ⟨h1, h2, h3, h4⟩ := two_rows w o1 o2
 have hb : Below ((w.alloc o1).alloc o2).heap.size ((w.alloc o1).alloc o2) (((w.alloc o1).alloc o2).alloc o3) := (Below.refl _ _).alloc (Nat.le_refl _) _
 have h5 := heap_alloc_new ((w.alloc o1).alloc o2) o3
 have hz : ((w.alloc o1).alloc o2).heap.size = w.heap.size + 1 + 1 := by simp
 rw [hz] at h5
 exact ⟨_, rfl, (hb.block _ (by omega)).trans h1, (hb.block _ (by omega)).trans h2, h5, h3.trans (hb.mono h3.size), by simp⟩
theorem changed_some (x : SbX) (ev : Ev) (w : World) (hk : ev.kd = 4 ∨ ev.kd = 5 ∨ ev.kd = 6 ∨ ev.kd = 7 ∨ ev.kd = 8 ∨ ev.kd = 9 ∨ ev.kd = 10 ∨ ev.kd = 11 ∨ ev.kd = 12 ∨ ev.kd = 13) (h : SbRd w x) (hn : ev.nu.size ≤ maxLen) (hm : ev.nm.size ≤ maxLen) (h1 : x.s.nus.length ≤ 10000) (h2 : x.s.prs.length ≤ 10000) :
 Calls Tryz.prog 118 #[sbVal x, evVal ev] w (ChTo x (changedS x.s ev) w) := by
 obtain ⟨⟨i1, i2, i3, i4, nus, prs, su, fa⟩, na, nn, nc, pa, pn, pc⟩ := x
 obtain ⟨tm, kd, ac, sb, nu, nm, vl⟩ := ev
 dsimp only at hk hn hm h1 h2
 obtain ⟨s1, s2, s3, s4, s5⟩ := h
 dsimp only at s1 s2 s3 s4 s5
 obtain ⟨W, hW, r0, r1, r2, hw0, hz⟩ := three_rows w (Obj.cells #[.int .i64 i1, .int .i64 i2, .int .i64 i3, .string i4, .slice na nn nc, .slice pa pn pc, .bool su, .bool fa] 181) (Obj.cells #[.int .i64 tm, .int .i64 kd, .int .i64 ac, .int .i64 sb, .string nu, .string nm, .int .i64 vl] 55) (Obj.cells #[.int .i64 0, .int .i64 0, .int .i64 0, .string ⟨#[]⟩, .slice none 0 0, .slice none 0 0, .bool false, .bool false] 181)
 have HS1 := hZ9 (s1.below hw0)
 have T1 := hZ9 s1
 have T2 := hZ9 s2
 have HS2 := hZ9 (s2.below hw0)
 have H4 := hZ9 (And.intro s3 (And.intro s4 (And.intro s5 (And.intro hn hm))))
 unfold sbVal evVal
 dsimp only
 have HW := hZ9 hW
 have Hw0 := hZ9 hw0
 have R0 := hZ9 r0
 have R1 := hZ9 r1
 have R2 := hZ9 r2
 have tQ := fun j => cell_of_row W _ j _ _ _ R0.out
 have a0 := tQ 0
 have a1 := tQ 1
 have a2 := tQ 2
 have a3 := tQ 3
 have a4 := tQ 4
 have a5 := tQ 5
 have a6 := tQ 6
 have a7 := tQ 7
 clear tQ
 have b1 := cell_of_row W _ 1 _ _ _ R1.out
 have b4 := cell_of_row W _ 4 _ _ _ R1.out
 have b5 := cell_of_row W _ 5 _ _ _ R1.out
 have f3 := frozen_of_row W _ 3 _ _ R0.out
 have f4 := frozen_of_row W _ 4 _ _ R0.out
 have f5 := frozen_of_row W _ 5 _ _ R0.out
 have f6 := frozen_of_row W _ 6 _ _ R0.out
 have f7 := frozen_of_row W _ 7 _ _ R0.out
 clear hW r0 r1 r2 hw0 s1 s2 s3 s4 s5 hn hm
 go_enter Tryz.func118, Tryz.ntmps118
 go_upto_region 1 with (fail)
 rw [← HW.out]
 rcases hk with hk | hk | hk | hk | hk | hk | hk | hk | hk | hk
 · subst hk
   have HCh := hZ9 (show (⟨i1, i2, i3, i4, [], [], su, fa⟩ : Sb) = changedS ⟨i1, i2, i3, i4, nus, prs, su, fa⟩ ⟨tm, 4, ac, sb, nu, nm, vl⟩ from rfl)
   obtain ⟨Z, hZ⟩ : ∃ Z, Z = ((W.setCell ⟨w.heap.size, 4, none⟩ (.slice none 0 0)).setCell ⟨w.heap.size, 5, none⟩ (.slice none 0 0)) := ⟨_, rfl⟩
   have Z0 := hZ9 (show Z.heap[w.heap.size]? = some (Obj.cells #[.int .i64 i1, .int .i64 i2, .int .i64 i3, .string i4, .slice none 0 0, .slice none 0 0, .bool su, .bool fa] 181) by rw [hZ]; exact (row_set _ (row_set _ R0.out)))
   have Z2 := hZ9 (show Z.heap[w.heap.size + 1 + 1]? = some (Obj.cells #[.int .i64 0, .int .i64 0, .int .i64 0, .string ⟨#[]⟩, .slice none 0 0, .slice none 0 0, .bool false, .bool false] 181) by rw [hZ]; exact (row_other (row_other R2.out (by omega)) (by omega)))
   have HbZ := hZ9 (show Below w.heap.size w Z by rw [hZ]; exact ((Hw0.out.setCell (Nat.le_refl _) _).setCell (Nat.le_refl _) _))
   have HZ := hZ9 hZ
   clear hZ
   go_upto_region 23 with (fail)
   rw [← HZ.out]
   clear a0 a1 a2 a3 a4 a5 a6 a7 b1 b4 b5 f3 f4 f5 f6 f7
   have tQ := fun j => cell_of_row Z _ j _ _ _ Z0.out
   have z0 := tQ 0
   have z1 := tQ 1
   have z2 := tQ 2
   have z3 := tQ 3
   have z4 := tQ 4
   have z5 := tQ 5
   have z6 := tQ 6
   have z7 := tQ 7
   clear tQ
   have HbF := hZ9 (below_setRow1 HbZ.out (show w.heap.size ≤ w.heap.size + 1 + 1 by omega) #[.int .i64 i1, .int .i64 i2, .int .i64 i3, .string i4, .slice none 0 0, .slice none 0 0, .bool su, .bool fa])
   have hZz : w.heap.size + 1 + 1 < Z.heap.size := (ltB9 Z2.out)
   have tQ := fun j => cell_setRow_same Z (w.heap.size + 1 + 1) j _ #[.int .i64 i1, .int .i64 i2, .int .i64 i3, .string i4, .slice none 0 0, .slice none 0 0, .bool su, .bool fa] _ _ Z2.out
   have t0 := tQ 0
   have t1 := tQ 1
   have t2 := tQ 2
   have t3 := tQ 3
   have t4 := tQ 4
   have t5 := tQ 5
   have t6 := tQ 6
   have t7 := tQ 7
   clear tQ
   repeat (first | refine wpList_store_row rfl _ _ _ rfl (w.heap.size + 1 + 1) #[.int .i64 i1, .int .i64 i2, .int .i64 i3, .string i4, .slice none 0 0, .slice none 0 0, .bool su, .bool fa] rfl rfl 181 _ Z2.out (by kernel_rfl) rfl (by simp [Value.oneCell']) ?_ | go_step)
   refine bodyPost_ret (v := .agg #[.int .i64 i1, .int .i64 i2, .int .i64 i3, .string i4, .slice none 0 0, .slice none 0 0, .bool su, .bool fa]) (by simp [results, Tryz.results118, go_sem, t0, t1, t2, t3, t4, t5, t6, t7]) rfl ?_
   exact chTo HCh.out (SliceAt.nil _) (SliceAt.nil _) H4.out.1 PlainA.nil PlainA.nil (Or.inr (fun _ h => by cases h)) (Or.inr (fun _ h => by cases h)) HbF.out
 · subst hk
   have HCh := hZ9 (show (⟨i1, i2, i3, i4, withT nus nu, prs, su, fa⟩ : Sb) = changedS ⟨i1, i2, i3, i4, nus, prs, su, fa⟩ ⟨tm, 5, ac, sb, nu, nm, vl⟩ from rfl)
   have HCl := hZ9 (with_calls _ _ nu W HS1.out (by intro a n c e; cases e; exact H4.out.2.1) H4.out.2.2.2.1 h1)
   go_wp2_with fail
   refine HCl.out.mono ?_
   rintro e w1 ⟨qa, qn, qc, rfl, hst, hpl, hb1⟩
   have Hst := hZ9 hst
   have Hpl := hZ9 hpl
   have Hb1 := hZ9 (Hw0.out.trans (hb1.mono Hw0.out.size))
   have q0 := (hb1.block _ (by omega)).trans R0.out
   have q2 := (hb1.block _ hz).trans R2.out
   have Q0 := hZ9 q0
   have g4 := cell_of_row w1 _ 4 _ _ _ q0
   have gf := frozen_of_row w1 _ 4 _ _ q0
   obtain ⟨Z, hZ⟩ : ∃ Z, Z = w1.setCell ⟨w.heap.size, 4, none⟩ (.slice qa qn qc) := ⟨_, rfl⟩
   have Z0 := hZ9 (show Z.heap[w.heap.size]? = some (Obj.cells #[.int .i64 i1, .int .i64 i2, .int .i64 i3, .string i4, .slice qa qn qc, .slice pa pn pc, .bool su, .bool fa] 181) by rw [hZ]; exact row_set _ q0)
   have Z2 := hZ9 (show Z.heap[w.heap.size + 1 + 1]? = some (Obj.cells #[.int .i64 0, .int .i64 0, .int .i64 0, .string ⟨#[]⟩, .slice none 0 0, .slice none 0 0, .bool false, .bool false] 181) by rw [hZ]; exact row_other q2 (by omega))
   have HbZ := hZ9 (show Below w.heap.size w Z by rw [hZ]; exact Hb1.out.setCell (Nat.le_refl _) _)
   have Hq := hZ9 (show StrsAt Z (.slice qa qn qc) _ from strs_hold Hst.out Hpl.out (fun k hk _ => by rw [hZ]; exact Below.heap_setCell _ _ _ _ (by show k ≠ w.heap.size; omega)) (by rw [hZ]; simp [World.setCell]))
   have HZ := hZ9 hZ
   clear hZ q0 q2 hst hpl hb1 a0 a1 a2 a3 a4 a5 a6 a7 b1 b4 b5 f3 f4 f5 f6 f7
   go_upto_region 23 with (fail)
   rw [← HZ.out]
   have tQ := fun j => cell_of_row Z _ j _ _ _ Z0.out
   have z0 := tQ 0
   have z1 := tQ 1
   have z2 := tQ 2
   have z3 := tQ 3
   have z4 := tQ 4
   have z5 := tQ 5
   have z6 := tQ 6
   have z7 := tQ 7
   clear tQ
   have HbF := hZ9 (below_setRow1 HbZ.out (show w.heap.size ≤ w.heap.size + 1 + 1 by omega) #[.int .i64 i1, .int .i64 i2, .int .i64 i3, .string i4, .slice qa qn qc, .slice pa pn pc, .bool su, .bool fa])
   have hZz : w.heap.size + 1 + 1 < Z.heap.size := (ltB9 Z2.out)
   have tQ := fun j => cell_setRow_same Z (w.heap.size + 1 + 1) j _ #[.int .i64 i1, .int .i64 i2, .int .i64 i3, .string i4, .slice qa qn qc, .slice pa pn pc, .bool su, .bool fa] _ _ Z2.out
   have t0 := tQ 0
   have t1 := tQ 1
   have t2 := tQ 2
   have t3 := tQ 3
   have t4 := tQ 4
   have t5 := tQ 5
   have t6 := tQ 6
   have t7 := tQ 7
   clear tQ
   repeat (first | refine wpList_store_row rfl _ _ _ rfl (w.heap.size + 1 + 1) #[.int .i64 i1, .int .i64 i2, .int .i64 i3, .string i4, .slice qa qn qc, .slice pa pn pc, .bool su, .bool fa] rfl rfl 181 _ Z2.out (by kernel_rfl) rfl (by simp [Value.oneCell']) ?_ | go_step)
   refine bodyPost_ret (v := .agg #[.int .i64 i1, .int .i64 i2, .int .i64 i3, .string i4, .slice qa qn qc, .slice pa pn pc, .bool su, .bool fa]) (by simp [results, Tryz.results118, go_sem, t0, t1, t2, t3, t4, t5, t6, t7]) rfl ?_
   exact chTo HCh.out (strs_hold Hq.out Hpl.out (fun k hk _ => setRow_other _ _ _ _ (by omega)) (by simp)) ((T2.out).below HbF.out) H4.out.1 Hpl.out.plain H4.out.2.2.1 (Or.inr (Hpl.out.mono Hw0.out.size)) (Or.inl ⟨rfl, rfl, rfl, rfl⟩) HbF.out
 · subst hk
   have HCh := hZ9 (show (⟨i1, i2, i3, i4, withoutT nus nu, prs, su, fa⟩ : Sb) = changedS ⟨i1, i2, i3, i4, nus, prs, su, fa⟩ ⟨tm, 6, ac, sb, nu, nm, vl⟩ from rfl)
   have HCl := hZ9 (without_calls _ _ nu W HS1.out h1)
   go_wp2_with fail
   refine HCl.out.mono ?_
   rintro e w1 ⟨qa, qn, qc, rfl, hst, hpl, hb1⟩
   have Hst := hZ9 hst
   have Hpl := hZ9 hpl
   have Hb1 := hZ9 (Hw0.out.trans (hb1.mono Hw0.out.size))
   have q0 := (hb1.block _ (by omega)).trans R0.out
   have q2 := (hb1.block _ hz).trans R2.out
   have Q0 := hZ9 q0
   have g4 := cell_of_row w1 _ 4 _ _ _ q0
   have gf := frozen_of_row w1 _ 4 _ _ q0
   obtain ⟨Z, hZ⟩ : ∃ Z, Z = w1.setCell ⟨w.heap.size, 4, none⟩ (.slice qa qn qc) := ⟨_, rfl⟩
   have Z0 := hZ9 (show Z.heap[w.heap.size]? = some (Obj.cells #[.int .i64 i1, .int .i64 i2, .int .i64 i3, .string i4, .slice qa qn qc, .slice pa pn pc, .bool su, .bool fa] 181) by rw [hZ]; exact row_set _ q0)
   have Z2 := hZ9 (show Z.heap[w.heap.size + 1 + 1]? = some (Obj.cells #[.int .i64 0, .int .i64 0, .int .i64 0, .string ⟨#[]⟩, .slice none 0 0, .slice none 0 0, .bool false, .bool false] 181) by rw [hZ]; exact row_other q2 (by omega))
   have HbZ := hZ9 (show Below w.heap.size w Z by rw [hZ]; exact Hb1.out.setCell (Nat.le_refl _) _)
   have Hq := hZ9 (show StrsAt Z (.slice qa qn qc) _ from strs_hold Hst.out Hpl.out (fun k hk _ => by rw [hZ]; exact Below.heap_setCell _ _ _ _ (by show k ≠ w.heap.size; omega)) (by rw [hZ]; simp [World.setCell]))
   have HZ := hZ9 hZ
   clear hZ q0 q2 hst hpl hb1 a0 a1 a2 a3 a4 a5 a6 a7 b1 b4 b5 f3 f4 f5 f6 f7
   go_upto_region 23 with (fail)
   rw [← HZ.out]
   have tQ := fun j => cell_of_row Z _ j _ _ _ Z0.out
   have z0 := tQ 0
   have z1 := tQ 1
   have z2 := tQ 2
   have z3 := tQ 3
   have z4 := tQ 4
   have z5 := tQ 5
   have z6 := tQ 6
   have z7 := tQ 7
   clear tQ
   have HbF := hZ9 (below_setRow1 HbZ.out (show w.heap.size ≤ w.heap.size + 1 + 1 by omega) #[.int .i64 i1, .int .i64 i2, .int .i64 i3, .string i4, .slice qa qn qc, .slice pa pn pc, .bool su, .bool fa])
   have hZz : w.heap.size + 1 + 1 < Z.heap.size := (ltB9 Z2.out)
   have tQ := fun j => cell_setRow_same Z (w.heap.size + 1 + 1) j _ #[.int .i64 i1, .int .i64 i2, .int .i64 i3, .string i4, .slice qa qn qc, .slice pa pn pc, .bool su, .bool fa] _ _ Z2.out
   have t0 := tQ 0
   have t1 := tQ 1
   have t2 := tQ 2
   have t3 := tQ 3
   have t4 := tQ 4
   have t5 := tQ 5
   have t6 := tQ 6
   have t7 := tQ 7
   clear tQ
   repeat (first | refine wpList_store_row rfl _ _ _ rfl (w.heap.size + 1 + 1) #[.int .i64 i1, .int .i64 i2, .int .i64 i3, .string i4, .slice qa qn qc, .slice pa pn pc, .bool su, .bool fa] rfl rfl 181 _ Z2.out (by kernel_rfl) rfl (by simp [Value.oneCell']) ?_ | go_step)
   refine bodyPost_ret (v := .agg #[.int .i64 i1, .int .i64 i2, .int .i64 i3, .string i4, .slice qa qn qc, .slice pa pn pc, .bool su, .bool fa]) (by simp [results, Tryz.results118, go_sem, t0, t1, t2, t3, t4, t5, t6, t7]) rfl ?_
   exact chTo HCh.out (strs_hold Hq.out Hpl.out (fun k hk _ => setRow_other _ _ _ _ (by omega)) (by simp)) ((T2.out).below HbF.out) H4.out.1 Hpl.out.plain H4.out.2.2.1 (Or.inr (Hpl.out.mono Hw0.out.size)) (Or.inl ⟨rfl, rfl, rfl, rfl⟩) HbF.out
 · subst hk
   have HCh := hZ9 (show (⟨i1, i2, i3, nm, nus, prs, su, fa⟩ : Sb) = changedS ⟨i1, i2, i3, i4, nus, prs, su, fa⟩ ⟨tm, 7, ac, sb, nu, nm, vl⟩ from rfl)
   obtain ⟨Z, hZ⟩ : ∃ Z, Z = (W.setCell ⟨w.heap.size, 3, none⟩ (.string nm)) := ⟨_, rfl⟩
   have Z0 := hZ9 (show Z.heap[w.heap.size]? = some (Obj.cells #[.int .i64 i1, .int .i64 i2, .int .i64 i3, .string nm, .slice na nn nc, .slice pa pn pc, .bool su, .bool fa] 181) by rw [hZ]; exact (row_set _ R0.out))
   have Z2 := hZ9 (show Z.heap[w.heap.size + 1 + 1]? = some (Obj.cells #[.int .i64 0, .int .i64 0, .int .i64 0, .string ⟨#[]⟩, .slice none 0 0, .slice none 0 0, .bool false, .bool false] 181) by rw [hZ]; exact (row_other R2.out (by omega)))
   have HbZ := hZ9 (show Below w.heap.size w Z by rw [hZ]; exact (Hw0.out.setCell (Nat.le_refl _) _))
   have HZ := hZ9 hZ
   clear hZ
   go_upto_region 23 with (fail)
   rw [← HZ.out]
   clear a0 a1 a2 a3 a4 a5 a6 a7 b1 b4 b5 f3 f4 f5 f6 f7
   have tQ := fun j => cell_of_row Z _ j _ _ _ Z0.out
   have z0 := tQ 0
   have z1 := tQ 1
   have z2 := tQ 2
   have z3 := tQ 3
   have z4 := tQ 4
   have z5 := tQ 5
   have z6 := tQ 6
   have z7 := tQ 7
   clear tQ
   have HbF := hZ9 (below_setRow1 HbZ.out (show w.heap.size ≤ w.heap.size + 1 + 1 by omega) #[.int .i64 i1, .int .i64 i2, .int .i64 i3, .string nm, .slice na nn nc, .slice pa pn pc, .bool su, .bool fa])
   have hZz : w.heap.size + 1 + 1 < Z.heap.size := (ltB9 Z2.out)
   have tQ := fun j => cell_setRow_same Z (w.heap.size + 1 + 1) j _ #[.int .i64 i1, .int .i64 i2, .int .i64 i3, .string nm, .slice na nn nc, .slice pa pn pc, .bool su, .bool fa] _ _ Z2.out
   have t0 := tQ 0
   have t1 := tQ 1
   have t2 := tQ 2
   have t3 := tQ 3
   have t4 := tQ 4
   have t5 := tQ 5
   have t6 := tQ 6
   have t7 := tQ 7
   clear tQ
   repeat (first | refine wpList_store_row rfl _ _ _ rfl (w.heap.size + 1 + 1) #[.int .i64 i1, .int .i64 i2, .int .i64 i3, .string nm, .slice na nn nc, .slice pa pn pc, .bool su, .bool fa] rfl rfl 181 _ Z2.out (by kernel_rfl) rfl (by simp [Value.oneCell']) ?_ | go_step)
   refine bodyPost_ret (v := .agg #[.int .i64 i1, .int .i64 i2, .int .i64 i3, .string nm, .slice na nn nc, .slice pa pn pc, .bool su, .bool fa]) (by simp [results, Tryz.results118, go_sem, t0, t1, t2, t3, t4, t5, t6, t7]) rfl ?_
   exact chTo HCh.out ((T1.out).below HbF.out) ((T2.out).below HbF.out) H4.out.2.2.2.2 H4.out.2.1 H4.out.2.2.1 (Or.inl ⟨rfl, rfl, rfl, rfl⟩) (Or.inl ⟨rfl, rfl, rfl, rfl⟩) HbF.out
 · subst hk
   have HCh := hZ9 (show (⟨i1, i2, i3, i4, nus, withT prs nm, su, fa⟩ : Sb) = changedS ⟨i1, i2, i3, i4, nus, prs, su, fa⟩ ⟨tm, 8, ac, sb, nu, nm, vl⟩ from rfl)
   have HCl := hZ9 (with_calls _ _ nm W HS2.out (by intro a n c e; cases e; exact H4.out.2.2.1) H4.out.2.2.2.2 h2)
   go_wp2_with fail
   refine HCl.out.mono ?_
   rintro e w1 ⟨qa, qn, qc, rfl, hst, hpl, hb1⟩
   have Hst := hZ9 hst
   have Hpl := hZ9 hpl
   have Hb1 := hZ9 (Hw0.out.trans (hb1.mono Hw0.out.size))
   have q0 := (hb1.block _ (by omega)).trans R0.out
   have q2 := (hb1.block _ hz).trans R2.out
   have Q0 := hZ9 q0
   have g5 := cell_of_row w1 _ 5 _ _ _ q0
   have gf := frozen_of_row w1 _ 5 _ _ q0
   obtain ⟨Z, hZ⟩ : ∃ Z, Z = w1.setCell ⟨w.heap.size, 5, none⟩ (.slice qa qn qc) := ⟨_, rfl⟩
   have Z0 := hZ9 (show Z.heap[w.heap.size]? = some (Obj.cells #[.int .i64 i1, .int .i64 i2, .int .i64 i3, .string i4, .slice na nn nc, .slice qa qn qc, .bool su, .bool fa] 181) by rw [hZ]; exact row_set _ q0)
   have Z2 := hZ9 (show Z.heap[w.heap.size + 1 + 1]? = some (Obj.cells #[.int .i64 0, .int .i64 0, .int .i64 0, .string ⟨#[]⟩, .slice none 0 0, .slice none 0 0, .bool false, .bool false] 181) by rw [hZ]; exact row_other q2 (by omega))
   have HbZ := hZ9 (show Below w.heap.size w Z by rw [hZ]; exact Hb1.out.setCell (Nat.le_refl _) _)
   have Hq := hZ9 (show StrsAt Z (.slice qa qn qc) _ from strs_hold Hst.out Hpl.out (fun k hk _ => by rw [hZ]; exact Below.heap_setCell _ _ _ _ (by show k ≠ w.heap.size; omega)) (by rw [hZ]; simp [World.setCell]))
   have HZ := hZ9 hZ
   clear hZ q0 q2 hst hpl hb1 a0 a1 a2 a3 a4 a5 a6 a7 b1 b4 b5 f3 f4 f5 f6 f7
   go_upto_region 23 with (fail)
   rw [← HZ.out]
   have tQ := fun j => cell_of_row Z _ j _ _ _ Z0.out
   have z0 := tQ 0
   have z1 := tQ 1
   have z2 := tQ 2
   have z3 := tQ 3
   have z4 := tQ 4
   have z5 := tQ 5
   have z6 := tQ 6
   have z7 := tQ 7
   clear tQ
   have HbF := hZ9 (below_setRow1 HbZ.out (show w.heap.size ≤ w.heap.size + 1 + 1 by omega) #[.int .i64 i1, .int .i64 i2, .int .i64 i3, .string i4, .slice na nn nc, .slice qa qn qc, .bool su, .bool fa])
   have hZz : w.heap.size + 1 + 1 < Z.heap.size := (ltB9 Z2.out)
   have tQ := fun j => cell_setRow_same Z (w.heap.size + 1 + 1) j _ #[.int .i64 i1, .int .i64 i2, .int .i64 i3, .string i4, .slice na nn nc, .slice qa qn qc, .bool su, .bool fa] _ _ Z2.out
   have t0 := tQ 0
   have t1 := tQ 1
   have t2 := tQ 2
   have t3 := tQ 3
   have t4 := tQ 4
   have t5 := tQ 5
   have t6 := tQ 6
   have t7 := tQ 7
   clear tQ
   repeat (first | refine wpList_store_row rfl _ _ _ rfl (w.heap.size + 1 + 1) #[.int .i64 i1, .int .i64 i2, .int .i64 i3, .string i4, .slice na nn nc, .slice qa qn qc, .bool su, .bool fa] rfl rfl 181 _ Z2.out (by kernel_rfl) rfl (by simp [Value.oneCell']) ?_ | go_step)
   refine bodyPost_ret (v := .agg #[.int .i64 i1, .int .i64 i2, .int .i64 i3, .string i4, .slice na nn nc, .slice qa qn qc, .bool su, .bool fa]) (by simp [results, Tryz.results118, go_sem, t0, t1, t2, t3, t4, t5, t6, t7]) rfl ?_
   exact chTo HCh.out ((T1.out).below HbF.out) (strs_hold Hq.out Hpl.out (fun k hk _ => setRow_other _ _ _ _ (by omega)) (by simp)) H4.out.1 H4.out.2.1 Hpl.out.plain (Or.inl ⟨rfl, rfl, rfl, rfl⟩) (Or.inr (Hpl.out.mono Hw0.out.size)) HbF.out
 · subst hk
   have HCh := hZ9 (show (⟨i1, i2, i3, i4, nus, withoutT prs nm, su, fa⟩ : Sb) = changedS ⟨i1, i2, i3, i4, nus, prs, su, fa⟩ ⟨tm, 9, ac, sb, nu, nm, vl⟩ from rfl)
   have HCl := hZ9 (without_calls _ _ nm W HS2.out h2)
   go_wp2_with fail
   refine HCl.out.mono ?_
   rintro e w1 ⟨qa, qn, qc, rfl, hst, hpl, hb1⟩
   have Hst := hZ9 hst
   have Hpl := hZ9 hpl
   have Hb1 := hZ9 (Hw0.out.trans (hb1.mono Hw0.out.size))
   have q0 := (hb1.block _ (by omega)).trans R0.out
   have q2 := (hb1.block _ hz).trans R2.out
   have Q0 := hZ9 q0
   have g5 := cell_of_row w1 _ 5 _ _ _ q0
   have gf := frozen_of_row w1 _ 5 _ _ q0
   obtain ⟨Z, hZ⟩ : ∃ Z, Z = w1.setCell ⟨w.heap.size, 5, none⟩ (.slice qa qn qc) := ⟨_, rfl⟩
   have Z0 := hZ9 (show Z.heap[w.heap.size]? = some (Obj.cells #[.int .i64 i1, .int .i64 i2, .int .i64 i3, .string i4, .slice na nn nc, .slice qa qn qc, .bool su, .bool fa] 181) by rw [hZ]; exact row_set _ q0)
   have Z2 := hZ9 (show Z.heap[w.heap.size + 1 + 1]? = some (Obj.cells #[.int .i64 0, .int .i64 0, .int .i64 0, .string ⟨#[]⟩, .slice none 0 0, .slice none 0 0, .bool false, .bool false] 181) by rw [hZ]; exact row_other q2 (by omega))
   have HbZ := hZ9 (show Below w.heap.size w Z by rw [hZ]; exact Hb1.out.setCell (Nat.le_refl _) _)
   have Hq := hZ9 (show StrsAt Z (.slice qa qn qc) _ from strs_hold Hst.out Hpl.out (fun k hk _ => by rw [hZ]; exact Below.heap_setCell _ _ _ _ (by show k ≠ w.heap.size; omega)) (by rw [hZ]; simp [World.setCell]))
   have HZ := hZ9 hZ
   clear hZ q0 q2 hst hpl hb1 a0 a1 a2 a3 a4 a5 a6 a7 b1 b4 b5 f3 f4 f5 f6 f7
   go_upto_region 23 with (fail)
   rw [← HZ.out]
   have tQ := fun j => cell_of_row Z _ j _ _ _ Z0.out
   have z0 := tQ 0
   have z1 := tQ 1
   have z2 := tQ 2
   have z3 := tQ 3
   have z4 := tQ 4
   have z5 := tQ 5
   have z6 := tQ 6
   have z7 := tQ 7
   clear tQ
   have HbF := hZ9 (below_setRow1 HbZ.out (show w.heap.size ≤ w.heap.size + 1 + 1 by omega) #[.int .i64 i1, .int .i64 i2, .int .i64 i3, .string i4, .slice na nn nc, .slice qa qn qc, .bool su, .bool fa])
   have hZz : w.heap.size + 1 + 1 < Z.heap.size := (ltB9 Z2.out)
   have tQ := fun j => cell_setRow_same Z (w.heap.size + 1 + 1) j _ #[.int .i64 i1, .int .i64 i2, .int .i64 i3, .string i4, .slice na nn nc, .slice qa qn qc, .bool su, .bool fa] _ _ Z2.out
   have t0 := tQ 0
   have t1 := tQ 1
   have t2 := tQ 2
   have t3 := tQ 3
   have t4 := tQ 4
   have t5 := tQ 5
   have t6 := tQ 6
   have t7 := tQ 7
   clear tQ
   repeat (first | refine wpList_store_row rfl _ _ _ rfl (w.heap.size + 1 + 1) #[.int .i64 i1, .int .i64 i2, .int .i64 i3, .string i4, .slice na nn nc, .slice qa qn qc, .bool su, .bool fa] rfl rfl 181 _ Z2.out (by kernel_rfl) rfl (by simp [Value.oneCell']) ?_ | go_step)
   refine bodyPost_ret (v := .agg #[.int .i64 i1, .int .i64 i2, .int .i64 i3, .string i4, .slice na nn nc, .slice qa qn qc, .bool su, .bool fa]) (by simp [results, Tryz.results118, go_sem, t0, t1, t2, t3, t4, t5, t6, t7]) rfl ?_
   exact chTo HCh.out ((T1.out).below HbF.out) (strs_hold Hq.out Hpl.out (fun k hk _ => setRow_other _ _ _ _ (by omega)) (by simp)) H4.out.1 H4.out.2.1 Hpl.out.plain (Or.inl ⟨rfl, rfl, rfl, rfl⟩) (Or.inr (Hpl.out.mono Hw0.out.size)) HbF.out
 · subst hk
   have HCh := hZ9 (show (⟨i1, i2, i3, i4, nus, prs, true, fa⟩ : Sb) = changedS ⟨i1, i2, i3, i4, nus, prs, su, fa⟩ ⟨tm, 10, ac, sb, nu, nm, vl⟩ from rfl)
   obtain ⟨Z, hZ⟩ : ∃ Z, Z = (W.setCell ⟨w.heap.size, 6, none⟩ (.bool true)) := ⟨_, rfl⟩
   have Z0 := hZ9 (show Z.heap[w.heap.size]? = some (Obj.cells #[.int .i64 i1, .int .i64 i2, .int .i64 i3, .string i4, .slice na nn nc, .slice pa pn pc, .bool true, .bool fa] 181) by rw [hZ]; exact (row_set _ R0.out))
   have Z2 := hZ9 (show Z.heap[w.heap.size + 1 + 1]? = some (Obj.cells #[.int .i64 0, .int .i64 0, .int .i64 0, .string ⟨#[]⟩, .slice none 0 0, .slice none 0 0, .bool false, .bool false] 181) by rw [hZ]; exact (row_other R2.out (by omega)))
   have HbZ := hZ9 (show Below w.heap.size w Z by rw [hZ]; exact (Hw0.out.setCell (Nat.le_refl _) _))
   have HZ := hZ9 hZ
   clear hZ
   go_upto_region 23 with (fail)
   rw [← HZ.out]
   clear a0 a1 a2 a3 a4 a5 a6 a7 b1 b4 b5 f3 f4 f5 f6 f7
   have tQ := fun j => cell_of_row Z _ j _ _ _ Z0.out
   have z0 := tQ 0
   have z1 := tQ 1
   have z2 := tQ 2
   have z3 := tQ 3
   have z4 := tQ 4
   have z5 := tQ 5
   have z6 := tQ 6
   have z7 := tQ 7
   clear tQ
   have HbF := hZ9 (below_setRow1 HbZ.out (show w.heap.size ≤ w.heap.size + 1 + 1 by omega) #[.int .i64 i1, .int .i64 i2, .int .i64 i3, .string i4, .slice na nn nc, .slice pa pn pc, .bool true, .bool fa])
   have hZz : w.heap.size + 1 + 1 < Z.heap.size := (ltB9 Z2.out)
   have tQ := fun j => cell_setRow_same Z (w.heap.size + 1 + 1) j _ #[.int .i64 i1, .int .i64 i2, .int .i64 i3, .string i4, .slice na nn nc, .slice pa pn pc, .bool true, .bool fa] _ _ Z2.out
   have t0 := tQ 0
   have t1 := tQ 1
   have t2 := tQ 2
   have t3 := tQ 3
   have t4 := tQ 4
   have t5 := tQ 5
   have t6 := tQ 6
   have t7 := tQ 7
   clear tQ
   repeat (first | refine wpList_store_row rfl _ _ _ rfl (w.heap.size + 1 + 1) #[.int .i64 i1, .int .i64 i2, .int .i64 i3, .string i4, .slice na nn nc, .slice pa pn pc, .bool true, .bool fa] rfl rfl 181 _ Z2.out (by kernel_rfl) rfl (by simp [Value.oneCell']) ?_ | go_step)
   refine bodyPost_ret (v := .agg #[.int .i64 i1, .int .i64 i2, .int .i64 i3, .string i4, .slice na nn nc, .slice pa pn pc, .bool true, .bool fa]) (by simp [results, Tryz.results118, go_sem, t0, t1, t2, t3, t4, t5, t6, t7]) rfl ?_
   exact chTo HCh.out ((T1.out).below HbF.out) ((T2.out).below HbF.out) H4.out.1 H4.out.2.1 H4.out.2.2.1 (Or.inl ⟨rfl, rfl, rfl, rfl⟩) (Or.inl ⟨rfl, rfl, rfl, rfl⟩) HbF.out
 · subst hk
   have HCh := hZ9 (show (⟨i1, i2, i3, i4, nus, prs, false, fa⟩ : Sb) = changedS ⟨i1, i2, i3, i4, nus, prs, su, fa⟩ ⟨tm, 11, ac, sb, nu, nm, vl⟩ from rfl)
   obtain ⟨Z, hZ⟩ : ∃ Z, Z = (W.setCell ⟨w.heap.size, 6, none⟩ (.bool false)) := ⟨_, rfl⟩
   have Z0 := hZ9 (show Z.heap[w.heap.size]? = some (Obj.cells #[.int .i64 i1, .int .i64 i2, .int .i64 i3, .string i4, .slice na nn nc, .slice pa pn pc, .bool false, .bool fa] 181) by rw [hZ]; exact (row_set _ R0.out))
   have Z2 := hZ9 (show Z.heap[w.heap.size + 1 + 1]? = some (Obj.cells #[.int .i64 0, .int .i64 0, .int .i64 0, .string ⟨#[]⟩, .slice none 0 0, .slice none 0 0, .bool false, .bool false] 181) by rw [hZ]; exact (row_other R2.out (by omega)))
   have HbZ := hZ9 (show Below w.heap.size w Z by rw [hZ]; exact (Hw0.out.setCell (Nat.le_refl _) _))
   have HZ := hZ9 hZ
   clear hZ
   go_upto_region 23 with (fail)
   rw [← HZ.out]
   clear a0 a1 a2 a3 a4 a5 a6 a7 b1 b4 b5 f3 f4 f5 f6 f7
   have tQ := fun j => cell_of_row Z _ j _ _ _ Z0.out
   have z0 := tQ 0
   have z1 := tQ 1
   have z2 := tQ 2
   have z3 := tQ 3
   have z4 := tQ 4
   have z5 := tQ 5
   have z6 := tQ 6
   have z7 := tQ 7
   clear tQ
   have HbF := hZ9 (below_setRow1 HbZ.out (show w.heap.size ≤ w.heap.size + 1 + 1 by omega) #[.int .i64 i1, .int .i64 i2, .int .i64 i3, .string i4, .slice na nn nc, .slice pa pn pc, .bool false, .bool fa])
   have hZz : w.heap.size + 1 + 1 < Z.heap.size := (ltB9 Z2.out)
   have tQ := fun j => cell_setRow_same Z (w.heap.size + 1 + 1) j _ #[.int .i64 i1, .int .i64 i2, .int .i64 i3, .string i4, .slice na nn nc, .slice pa pn pc, .bool false, .bool fa] _ _ Z2.out
   have t0 := tQ 0
   have t1 := tQ 1
   have t2 := tQ 2
   have t3 := tQ 3
   have t4 := tQ 4
   have t5 := tQ 5
   have t6 := tQ 6
   have t7 := tQ 7
   clear tQ
   repeat (first | refine wpList_store_row rfl _ _ _ rfl (w.heap.size + 1 + 1) #[.int .i64 i1, .int .i64 i2, .int .i64 i3, .string i4, .slice na nn nc, .slice pa pn pc, .bool false, .bool fa] rfl rfl 181 _ Z2.out (by kernel_rfl) rfl (by simp [Value.oneCell']) ?_ | go_step)
   refine bodyPost_ret (v := .agg #[.int .i64 i1, .int .i64 i2, .int .i64 i3, .string i4, .slice na nn nc, .slice pa pn pc, .bool false, .bool fa]) (by simp [results, Tryz.results118, go_sem, t0, t1, t2, t3, t4, t5, t6, t7]) rfl ?_
   exact chTo HCh.out ((T1.out).below HbF.out) ((T2.out).below HbF.out) H4.out.1 H4.out.2.1 H4.out.2.2.1 (Or.inl ⟨rfl, rfl, rfl, rfl⟩) (Or.inl ⟨rfl, rfl, rfl, rfl⟩) HbF.out
 · subst hk
   have HCh := hZ9 (show (⟨i1, i2, i3, i4, nus, prs, su, true⟩ : Sb) = changedS ⟨i1, i2, i3, i4, nus, prs, su, fa⟩ ⟨tm, 12, ac, sb, nu, nm, vl⟩ from rfl)
   obtain ⟨Z, hZ⟩ : ∃ Z, Z = (W.setCell ⟨w.heap.size, 7, none⟩ (.bool true)) := ⟨_, rfl⟩
   have Z0 := hZ9 (show Z.heap[w.heap.size]? = some (Obj.cells #[.int .i64 i1, .int .i64 i2, .int .i64 i3, .string i4, .slice na nn nc, .slice pa pn pc, .bool su, .bool true] 181) by rw [hZ]; exact (row_set _ R0.out))
   have Z2 := hZ9 (show Z.heap[w.heap.size + 1 + 1]? = some (Obj.cells #[.int .i64 0, .int .i64 0, .int .i64 0, .string ⟨#[]⟩, .slice none 0 0, .slice none 0 0, .bool false, .bool false] 181) by rw [hZ]; exact (row_other R2.out (by omega)))
   have HbZ := hZ9 (show Below w.heap.size w Z by rw [hZ]; exact (Hw0.out.setCell (Nat.le_refl _) _))
   have HZ := hZ9 hZ
   clear hZ
   go_upto_region 23 with (fail)
   rw [← HZ.out]
   clear a0 a1 a2 a3 a4 a5 a6 a7 b1 b4 b5 f3 f4 f5 f6 f7
   have tQ := fun j => cell_of_row Z _ j _ _ _ Z0.out
   have z0 := tQ 0
   have z1 := tQ 1
   have z2 := tQ 2
   have z3 := tQ 3
   have z4 := tQ 4
   have z5 := tQ 5
   have z6 := tQ 6
   have z7 := tQ 7
   clear tQ
   have HbF := hZ9 (below_setRow1 HbZ.out (show w.heap.size ≤ w.heap.size + 1 + 1 by omega) #[.int .i64 i1, .int .i64 i2, .int .i64 i3, .string i4, .slice na nn nc, .slice pa pn pc, .bool su, .bool true])
   have hZz : w.heap.size + 1 + 1 < Z.heap.size := (ltB9 Z2.out)
   have tQ := fun j => cell_setRow_same Z (w.heap.size + 1 + 1) j _ #[.int .i64 i1, .int .i64 i2, .int .i64 i3, .string i4, .slice na nn nc, .slice pa pn pc, .bool su, .bool true] _ _ Z2.out
   have t0 := tQ 0
   have t1 := tQ 1
   have t2 := tQ 2
   have t3 := tQ 3
   have t4 := tQ 4
   have t5 := tQ 5
   have t6 := tQ 6
   have t7 := tQ 7
   clear tQ
   repeat (first | refine wpList_store_row rfl _ _ _ rfl (w.heap.size + 1 + 1) #[.int .i64 i1, .int .i64 i2, .int .i64 i3, .string i4, .slice na nn nc, .slice pa pn pc, .bool su, .bool true] rfl rfl 181 _ Z2.out (by kernel_rfl) rfl (by simp [Value.oneCell']) ?_ | go_step)
   refine bodyPost_ret (v := .agg #[.int .i64 i1, .int .i64 i2, .int .i64 i3, .string i4, .slice na nn nc, .slice pa pn pc, .bool su, .bool true]) (by simp [results, Tryz.results118, go_sem, t0, t1, t2, t3, t4, t5, t6, t7]) rfl ?_
   exact chTo HCh.out ((T1.out).below HbF.out) ((T2.out).below HbF.out) H4.out.1 H4.out.2.1 H4.out.2.2.1 (Or.inl ⟨rfl, rfl, rfl, rfl⟩) (Or.inl ⟨rfl, rfl, rfl, rfl⟩) HbF.out
 subst hk
 have HCh := hZ9 (show (⟨i1, i2, i3, i4, nus, prs, su, false⟩ : Sb) = changedS ⟨i1, i2, i3, i4, nus, prs, su, fa⟩ ⟨tm, 13, ac, sb, nu, nm, vl⟩ from rfl)
 obtain ⟨Z, hZ⟩ : ∃ Z, Z = (W.setCell ⟨w.heap.size, 7, none⟩ (.bool false)) := ⟨_, rfl⟩
 have Z0 := hZ9 (show Z.heap[w.heap.size]? = some (Obj.cells #[.int .i64 i1, .int .i64 i2, .int .i64 i3, .string i4, .slice na nn nc, .slice pa pn pc, .bool su, .bool false] 181) by rw [hZ]; exact (row_set _ R0.out))
 have Z2 := hZ9 (show Z.heap[w.heap.size + 1 + 1]? = some (Obj.cells #[.int .i64 0, .int .i64 0, .int .i64 0, .string ⟨#[]⟩, .slice none 0 0, .slice none 0 0, .bool false, .bool false] 181) by rw [hZ]; exact (row_other R2.out (by omega)))
 have HbZ := hZ9 (show Below w.heap.size w Z by rw [hZ]; exact (Hw0.out.setCell (Nat.le_refl _) _))
 have HZ := hZ9 hZ
 clear hZ
 go_upto_region 23 with (fail)
 rw [← HZ.out]
 clear a0 a1 a2 a3 a4 a5 a6 a7 b1 b4 b5 f3 f4 f5 f6 f7
 have tQ := fun j => cell_of_row Z _ j _ _ _ Z0.out
 have z0 := tQ 0
 have z1 := tQ 1
 have z2 := tQ 2
 have z3 := tQ 3
 have z4 := tQ 4
 have z5 := tQ 5
 have z6 := tQ 6
 have z7 := tQ 7
 clear tQ
 have HbF := hZ9 (below_setRow1 HbZ.out (show w.heap.size ≤ w.heap.size + 1 + 1 by omega) #[.int .i64 i1, .int .i64 i2, .int .i64 i3, .string i4, .slice na nn nc, .slice pa pn pc, .bool su, .bool false])
 have hZz : w.heap.size + 1 + 1 < Z.heap.size := (ltB9 Z2.out)
 have tQ := fun j => cell_setRow_same Z (w.heap.size + 1 + 1) j _ #[.int .i64 i1, .int .i64 i2, .int .i64 i3, .string i4, .slice na nn nc, .slice pa pn pc, .bool su, .bool false] _ _ Z2.out
 have t0 := tQ 0
 have t1 := tQ 1
 have t2 := tQ 2
 have t3 := tQ 3
 have t4 := tQ 4
 have t5 := tQ 5
 have t6 := tQ 6
 have t7 := tQ 7
 clear tQ
 repeat (first | refine wpList_store_row rfl _ _ _ rfl (w.heap.size + 1 + 1) #[.int .i64 i1, .int .i64 i2, .int .i64 i3, .string i4, .slice na nn nc, .slice pa pn pc, .bool su, .bool false] rfl rfl 181 _ Z2.out (by kernel_rfl) rfl (by simp [Value.oneCell']) ?_ | go_step)
 refine bodyPost_ret (v := .agg #[.int .i64 i1, .int .i64 i2, .int .i64 i3, .string i4, .slice na nn nc, .slice pa pn pc, .bool su, .bool false]) (by simp [results, Tryz.results118, go_sem, t0, t1, t2, t3, t4, t5, t6, t7]) rfl ?_
 exact chTo HCh.out ((T1.out).below HbF.out) ((T2.out).below HbF.out) H4.out.1 H4.out.2.1 H4.out.2.2.1 (Or.inl ⟨rfl, rfl, rfl, rfl⟩) (Or.inl ⟨rfl, rfl, rfl, rfl⟩) HbF.out
theorem changed_0 (x : SbX) (ev : Ev) (w : World) (hk : ¬ (4 ≤ ev.kd ∧ ev.kd ≤ 13)) (h : SbRd w x) (hn : ev.nu.size ≤ maxLen) (hm : ev.nm.size ≤ maxLen) (h1 : x.s.nus.length ≤ 10000) (h2 : x.s.prs.length ≤ 10000) :
 Calls Tryz.prog 118 #[sbVal x, evVal ev] w (ChTo x (changedS x.s ev) w) := by
 obtain ⟨⟨i1, i2, i3, i4, nus, prs, su, fa⟩, na, nn, nc, pa, pn, pc⟩ := x
 obtain ⟨tm, kd, ac, sb, nu, nm, vl⟩ := ev
 dsimp only at hk hn hm h1 h2
 have e4 : (kd == 4) = false := beq_eq_false_iff_ne.2 (by omega)
 have e5 : (kd == 5) = false := beq_eq_false_iff_ne.2 (by omega)
 have e6 : (kd == 6) = false := beq_eq_false_iff_ne.2 (by omega)
 have e7 : (kd == 7) = false := beq_eq_false_iff_ne.2 (by omega)
 have e8 : (kd == 8) = false := beq_eq_false_iff_ne.2 (by omega)
 have e9 : (kd == 9) = false := beq_eq_false_iff_ne.2 (by omega)
 have e10 : (kd == 10) = false := beq_eq_false_iff_ne.2 (by omega)
 have e11 : (kd == 11) = false := beq_eq_false_iff_ne.2 (by omega)
 have e12 : (kd == 12) = false := beq_eq_false_iff_ne.2 (by omega)
 have e13 : (kd == 13) = false := beq_eq_false_iff_ne.2 (by omega)
 have HCh := hZ9 (show (⟨i1, i2, i3, i4, nus, prs, su, fa⟩ : Sb) = changedS ⟨i1, i2, i3, i4, nus, prs, su, fa⟩ ⟨tm, kd, ac, sb, nu, nm, vl⟩ from by unfold changedS; dsimp only; rw [if_neg (by omega), if_neg (by omega), if_neg (by omega), if_neg (by omega), if_neg (by omega), if_neg (by omega), if_neg (by omega), if_neg (by omega), if_neg (by omega), if_neg (by omega)])
 obtain ⟨s1, s2, s3, s4, s5⟩ := h
 dsimp only at s1 s2 s3 s4 s5
 obtain ⟨W, hW, r0, r1, r2, hw0, hz⟩ := three_rows w (Obj.cells #[.int .i64 i1, .int .i64 i2, .int .i64 i3, .string i4, .slice na nn nc, .slice pa pn pc, .bool su, .bool fa] 181) (Obj.cells #[.int .i64 tm, .int .i64 kd, .int .i64 ac, .int .i64 sb, .string nu, .string nm, .int .i64 vl] 55) (Obj.cells #[.int .i64 0, .int .i64 0, .int .i64 0, .string ⟨#[]⟩, .slice none 0 0, .slice none 0 0, .bool false, .bool false] 181)
 have HS1 := hZ9 (s1.below hw0)
 have T1 := hZ9 s1
 have T2 := hZ9 s2
 have HS2 := hZ9 (s2.below hw0)
 have H4 := hZ9 (And.intro s3 (And.intro s4 (And.intro s5 (And.intro hn hm))))
 unfold sbVal evVal
 dsimp only
 have HW := hZ9 hW
 have Hw0 := hZ9 hw0
 have R0 := hZ9 r0
 have R1 := hZ9 r1
 have R2 := hZ9 r2
 have tQ := fun j => cell_of_row W _ j _ _ _ R0.out
 have a0 := tQ 0
 have a1 := tQ 1
 have a2 := tQ 2
 have a3 := tQ 3
 have a4 := tQ 4
 have a5 := tQ 5
 have a6 := tQ 6
 have a7 := tQ 7
 clear tQ
 have b1 := cell_of_row W _ 1 _ _ _ R1.out
 have b4 := cell_of_row W _ 4 _ _ _ R1.out
 have b5 := cell_of_row W _ 5 _ _ _ R1.out
 have f3 := frozen_of_row W _ 3 _ _ R0.out
 have f4 := frozen_of_row W _ 4 _ _ R0.out
 have f5 := frozen_of_row W _ 5 _ _ R0.out
 have f6 := frozen_of_row W _ 6 _ _ R0.out
 have f7 := frozen_of_row W _ 7 _ _ R0.out
 obtain ⟨Z, hZ⟩ : ∃ Z, Z = W := ⟨_, rfl⟩
 have Z0 := hZ9 (show Z.heap[w.heap.size]? = some (Obj.cells #[.int .i64 i1, .int .i64 i2, .int .i64 i3, .string i4, .slice na nn nc, .slice pa pn pc, .bool su, .bool fa] 181) by rw [hZ]; exact R0.out)
 have Z2 := hZ9 (show Z.heap[w.heap.size + 1 + 1]? = some (Obj.cells #[.int .i64 0, .int .i64 0, .int .i64 0, .string ⟨#[]⟩, .slice none 0 0, .slice none 0 0, .bool false, .bool false] 181) by rw [hZ]; exact R2.out)
 have HbZ := hZ9 (show Below w.heap.size w Z by rw [hZ]; exact Hw0.out)
 have HZ := hZ9 hZ
 clear hZ
 clear hW r0 r1 r2 hw0 s1 s2 s3 s4 s5 hn hm hk
 go_enter Tryz.func118, Tryz.ntmps118
 go_upto_region 1 with (fail)
 rw [← HW.out]
 go_upto_region 23 with (fail)
 rw [← HZ.out]
 clear a0 a1 a2 a3 a4 a5 a6 a7 b1 b4 b5 f3 f4 f5 f6 f7
 have tQ := fun j => cell_of_row Z _ j _ _ _ Z0.out
 have z0 := tQ 0
 have z1 := tQ 1
 have z2 := tQ 2
 have z3 := tQ 3
 have z4 := tQ 4
 have z5 := tQ 5
 have z6 := tQ 6
 have z7 := tQ 7
 clear tQ
 have HbF := hZ9 (below_setRow1 HbZ.out (show w.heap.size ≤ w.heap.size + 1 + 1 by omega) #[.int .i64 i1, .int .i64 i2, .int .i64 i3, .string i4, .slice na nn nc, .slice pa pn pc, .bool su, .bool fa])
 have hZz : w.heap.size + 1 + 1 < Z.heap.size := (ltB9 Z2.out)
 have tQ := fun j => cell_setRow_same Z (w.heap.size + 1 + 1) j _ #[.int .i64 i1, .int .i64 i2, .int .i64 i3, .string i4, .slice na nn nc, .slice pa pn pc, .bool su, .bool fa] _ _ Z2.out
 have t0 := tQ 0
 have t1 := tQ 1
 have t2 := tQ 2
 have t3 := tQ 3
 have t4 := tQ 4
 have t5 := tQ 5
 have t6 := tQ 6
 have t7 := tQ 7
 clear tQ
 repeat (first | refine wpList_store_row rfl _ _ _ rfl (w.heap.size + 1 + 1) #[.int .i64 i1, .int .i64 i2, .int .i64 i3, .string i4, .slice na nn nc, .slice pa pn pc, .bool su, .bool fa] rfl rfl 181 _ Z2.out (by kernel_rfl) rfl (by simp [Value.oneCell']) ?_ | go_step)
 refine bodyPost_ret (v := .agg #[.int .i64 i1, .int .i64 i2, .int .i64 i3, .string i4, .slice na nn nc, .slice pa pn pc, .bool su, .bool fa]) (by simp [results, Tryz.results118, go_sem, t0, t1, t2, t3, t4, t5, t6, t7]) rfl ?_
 exact chTo HCh.out ((T1.out).below HbF.out) ((T2.out).below HbF.out) H4.out.1 H4.out.2.1 H4.out.2.2.1 (Or.inl ⟨rfl, rfl, rfl, rfl⟩) (Or.inl ⟨rfl, rfl, rfl, rfl⟩) HbF.out
theorem changed_calls (x : SbX) (ev : Ev) (w : World) (h : SbRd w x) (hn : ev.nu.size ≤ maxLen) (hm : ev.nm.size ≤ maxLen) (h1 : x.s.nus.length ≤ 10000) (h2 : x.s.prs.length ≤ 10000) :
 Calls Tryz.prog 118 #[sbVal x, evVal ev] w (ChTo x (changedS x.s ev) w) := by
 by_cases g : ev.kd = 4 ∨ ev.kd = 5 ∨ ev.kd = 6 ∨ ev.kd = 7 ∨ ev.kd = 8 ∨ ev.kd = 9 ∨ ev.kd = 10 ∨ ev.kd = 11 ∨ ev.kd = 12 ∨ ev.kd = 13
 · exact changed_some x ev w g h hn hm h1 h2
 exact changed_0 x ev w (by omega) h hn hm h1 h2
end Go.Proofs.YtngippiilgdnoaaGreat
