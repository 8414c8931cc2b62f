/-
  The walks of Fee, the program's and the reference's; of the laws' Few and valid; the law on fees.
-/
import Derived.Test.YtngippiilgdnoaaGreatMkbf
import Derived.Test.YtngippiilgdnoaaGreatMkbm
import Derived.Test.YtngippiilgdnoaaGreatMkbh
import Derived.Test.YtngippiilgdnoaaGreatMkbi
set_option maxRecDepth 100000
set_option maxHeartbeats 25600000
namespace Go.Proofs.YtngippiilgdnoaaGreat
open Go.RowKit
theorem pat_calls (v : Value) (l : List Pd) (s : ByteArray) (t : Int) (w : World) (h : PdsAt w v l) (hf : FewP l) :
 Calls Tryz.prog 77 #[v, .string s, .int .i64 t] w fun e w' => RatTo w (atL l s t) e w' := by
 cases ha : atL l s t with
 | none => exact at_no v l s t w h hf ha
 | some p => exact at_yes v l s t p w h hf ha
theorem pers_shape {w : World} {v : Value} {l : List (Int × Int)} (h : PersAt w v l) : ∃ a c, v = .slice a l.length c ∧ l.length ≤ c ∧ c ≤ maxLen := by
 obtain ⟨a, c, rfl, h1, h2, -⟩ := h
 exact ⟨a, c, rfl, h1, h2.1⟩
def buOf (ac : Int) (h : Had) (q : Int × Int) (i : Int) (b : Bd) : Bu := ⟨ac, h.1, h.2, i, b.kd, b.zs, q.1, q.2, b.un, b.un, b.pr, b.sh⟩
def grantsL (ac : Int) (h : Had) (q : Int × Int) (bs : List Bd) : List (Bu × Int) := bs.mapIdx fun i b => (buOf ac h q (i : Int) b, b.ro)
theorem grantsL_take (ac : Int) (h : Had) (q : Int × Int) (bs : List Bd) (k : Nat) (hk : k < bs.length) : grantsL ac h q (bs.take (k + 1)) = grantsL ac h q (bs.take k) ++ [(buOf ac h q (k : Int) bs[k], (bs[k]).ro)] := by
 unfold grantsL
 rw [List.take_succ_eq_append_getElem hk, List.mapIdx_concat, List.length_take, Nat.min_eq_left (Nat.le_of_lt hk)]
theorem grantsL_len (ac : Int) (h : Had) (q : Int × Int) (bs : List Bd) : (grantsL ac h q bs).length = bs.length := by unfold grantsL; rw [List.length_mapIdx]
def firstP (A : List (Int × Int)) (c : Int × Int) : Option (Int × Int) := match A.find? (fun p => meetB p.1 p.2 c.1 c.2) with
 | some p => some (max p.1 c.1, min p.2 c.2)
 | none => none
def bsOf : Option Pd → List Bd
 | none => []
 | some x => x.bs
def grantB (P : List Pd) (ac : Int) (h : Had) (A : List (Int × Int)) (c : Int × Int) : List (Bu × Int) := match firstP A c with
 | none => []
 | some q => grantsL ac h q (bsOf (atL P h.2 q.1))
theorem find_hit {α : Type} {p : α → Bool} {l : List α} {k : Nat} (hk : k < l.length) (h : (l.take k).any p = false) (hp : p l[k] = true) : l.find? p = some l[k] := by
 have e : l = l.take k ++ (l[k] :: l.drop (k + 1)) := by rw [← List.drop_eq_getElem_cons hk, List.take_append_drop]
 have h1 : (l.take k).find? p = none := List.find?_eq_none.2 (fun x hx => by
  have := List.any_eq_false.1 h x hx
  simpa using this)
 have h2 : l.find? p = (l.take k ++ (l[k] :: l.drop (k + 1))).find? p := congrArg _ e
 rw [h2, List.find?_append, h1, Option.none_or, List.find?_cons_of_pos hp]
theorem find_end {α : Type} {p : α → Bool} {l : List α} {k : Nat} (hk : l.length ≤ k) (h : (l.take k).any p = false) : l.find? p = none := by
 rw [List.take_of_length_le hk] at h
 exact List.find?_eq_none.2 (fun x hx => by
  have := List.any_eq_false.1 h x hx
  simpa using this)
theorem firstP_hit {A : List (Int × Int)} {c : Int × Int} {k : Nat} (hk : k < A.length) (h : (A.take k).any (fun p => meetB p.1 p.2 c.1 c.2) = false) (hp : meetB (A[k]).1 (A[k]).2 c.1 c.2 = true) : firstP A c = some (max (A[k]).1 c.1, min (A[k]).2 c.2) := by
 unfold firstP
 rw [find_hit (p := fun p : Int × Int => meetB p.1 p.2 c.1 c.2) hk h hp]
theorem firstP_end {A : List (Int × Int)} {c : Int × Int} {k : Nat} (hk : A.length ≤ k) (h : (A.take k).any (fun p => meetB p.1 p.2 c.1 c.2) = false) : firstP A c = none := by
 unfold firstP
 rw [find_end (p := fun p : Int × Int => meetB p.1 p.2 c.1 c.2) hk h]
def grCells (g : BuX × Int) : List Value := [.int .i64 g.1.b.ac, .int .i64 g.1.b.sb, .string g.1.b.pr, .int .i64 g.1.b.ix, .int .i64 g.1.b.kd, .slice g.1.za g.1.zn g.1.zc, .int .i64 g.1.b.f, .int .i64 g.1.b.t, .int .i64 g.1.b.un, .int .i64 g.1.b.lf, .int .i64 g.1.b.pt, .bool g.1.b.sh, .int .i64 g.2]
theorem gr_one (a : BuX × Int) : ∀ u ∈ grCells a, u.oneCell' = true := by
 intro u hu
 unfold grCells at hu
 simp only [List.mem_cons, List.not_mem_nil, or_false] at hu
 rcases hu with rfl | rfl | rfl | rfl | rfl | rfl | rfl | rfl | rfl | rfl | rfl | rfl | rfl <;> rfl
theorem Tryz.grInfo : (Tryz.prog.info? 122).map (fun i => (i.zero, i.size, i.bytes)) = some (some (.agg #[.int .i64 0, .int .i64 0, .string ⟨#[]⟩, .int .i64 0, .int .i64 0, .slice none 0 0, .int .i64 0, .int .i64 0, .int .i64 0, .int .i64 0, .int .i64 0, .bool false, .int .i64 0]), 13, 128) := by kernel_rfl
def plG (X : List (BuX × Int)) : List (Bu × Int) := X.map fun g => (g.1.b, g.2)
def GrTo (G : List (Bu × Int)) (w : World) (e : Ending) (w' : World) : Prop := ∃ (a : Option Addr) (c : Nat) (X : List (BuX × Int)), e = .returned (.slice a X.length c) ∧ w'.ownsRow w.heap.size 122 13 (.slice a X.length c) X.length (X.flatMap grCells) ∧ plG X = G ∧ (∀ x ∈ X, BuRd w' x.1) ∧ Below w.heap.size w w'
theorem append_gr {w : World} {ops : Array Oper} {rest : List Oper} {o : Oper} {a : Act} {Q : Exit → Act → World → Prop} (hgd : o.guard = none) (s x : Operand)
 (ho : o.op = .call { callee := .builtin .append, args := #[s, x], argTypes := #[119, 119] })
 (base : Nat) (hbase : base ≤ w.heap.size) (v vx : Value) (L X : List (BuX × Int)) (hs : a.eval s = v) (hx : a.eval x = vx) (hown : w.ownsRow base 122 13 v L.length (L.flatMap grCells)) (hX : RecAt grCells 13 w vx X) (hlen : L.length + X.length ≤ 1000000)
 (h : ∀ R : List (BuX × Int), RowKit.Hid (R = L ++ X) → ∀ v' w', w'.ownsRow base 122 13 v' R.length (R.flatMap grCells) → w.grownBy w' v.ownBlock → wpList Tryz.prog ops Q rest (a.put o.dst v') w') : wpList Tryz.prog ops Q (o :: rest) a w :=
 append_rec2 (c := grCells) (sz := 13) (fun _ => rfl) gr_one 122 119 _ 128 Tryz.underlying119 Tryz.grInfo rfl (by decide) hgd s x ho base hbase v vx L X hs hx hown hX (by unfold maxLen; omega) (by omega) h
theorem World.le_alloc (w : World) (o : Obj) : w.heap.size ≤ (w.alloc o).heap.size := by simp
theorem bds_slice {w : World} {v : Value} {l : List Bd} (h : BdsAt w v l) : ∃ a c, v = .slice a l.length c ∧ l.length ≤ c ∧ c ≤ maxLen := by
 obtain ⟨a, c, rfl, h1, h2, -⟩ := h
 exact ⟨a, c, rfl, h1, h2.1⟩
theorem bds_nil (w : World) : BdsAt w (.slice none 0 0) [] := ⟨none, 0, rfl, Nat.le_refl _, ⟨by unfold maxLen; omega, fun _ => rfl⟩, fun h => absurd rfl h⟩
theorem atBs {w w' : World} {o : Option Pd} {e : Ending} (h : RatTo w o e w') : ∃ (nm ct : ByteArray) (fm fe : Int) (pro : Bool) (ba : Option Addr) (bc : Nat), e = .returned (.tuple #[.agg #[.string nm, .int .i64 fm, .int .i64 fe, .string ct, .bool pro, .slice ba (bsOf o).length bc], .bool o.isSome]) ∧ BdsAt w' (.slice ba (bsOf o).length bc) (bsOf o) ∧ (bsOf o).length ≤ bc ∧ bc ≤ maxLen ∧ Below w.heap.size w w' := by
 cases o with
 | none => exact ⟨_, _, _, _, _, none, 0, h.1, bds_nil _, Nat.le_refl _, by unfold maxLen; omega, h.2⟩
 | some p =>
   obtain ⟨bv, rfl, hb, hbl⟩ := h
   obtain ⟨a, c, rfl, h1, h2⟩ := bds_slice hb
   exact ⟨_, _, _, _, _, a, c, rfl, hb, h1, h2, hbl⟩
theorem bd_zones {w : World} {b o : Nat} {x : Bd} (h : BdR w b o x) : ∃ (za : Option Addr) (zc : Nat), w.cell? ⟨b, o, none⟩ = some (.int .i64 x.kd) ∧ w.cell? ⟨b, o + 1, none⟩ = some (.slice za x.zs.length zc) ∧ StrsAt w (.slice za x.zs.length zc) x.zs ∧ w.cell? ⟨b, o + 2, none⟩ = some (.int .i64 x.un) ∧ w.cell? ⟨b, o + 3, none⟩ = some (.int .i64 x.ro) ∧ w.cell? ⟨b, o + 4, none⟩ = some (.int .i64 x.pr) ∧ w.cell? ⟨b, o + 5, none⟩ = some (.bool x.sh) := by
 obtain ⟨h0, ⟨zv, h1, hz⟩, h2, h3, h4, h5⟩ := h
 have hz2 := hz
 obtain ⟨za, zc, rfl, -, -, -⟩ := hz2
 exact ⟨za, zc, h0, h1, hz, h2, h3, h4, h5⟩
theorem grant_calls (ac sb : Int) (pr : ByteArray) (pa : Option Addr) (pn pc : Nat) (vp : Value) (P : List Pd) (A : List (Int × Int)) (c : Int × Int) (w : World) (hA : PersAt w (.slice pa pn pc) A) (hp : PdsAt w vp P) (hf : FewP P) (hs : pr.size ≤ maxLen) :
 Calls Tryz.prog 56 #[.agg #[.int .i64 ac, .int .i64 sb, .string pr, .slice pa pn pc], vp, .agg #[.int .i64 c.1, .int .i64 c.2]] w (GrTo (grantB P ac (sb, pr) A c) w) := by
 obtain ⟨W, hW, r0, r1, hw0, hz0⟩ := two_rows2 w (Obj.cells #[.int .i64 ac, .int .i64 sb, .string pr, .slice pa pn pc] 118) (Obj.cells #[.int .i64 c.1, .int .i64 c.2] 25)
 have HA := hZ9 (hA.below hw0)
 have HP := hZ9 (hp.below hw0)
 have Hf := hZ9 hf
 have Hs := hZ9 hs
 have Hzs := hZ9 (show ∀ (s : ByteArray) (t : Int), ∀ b ∈ bsOf (atL P s t), b.zs.length ≤ 100 from fun s t b hb => by
  cases ha : atL P s t with
  | none => rw [ha] at hb; cases hb
  | some x =>
    rw [ha] at hb
    have hx : x ∈ P := by
     unfold atL at ha
     exact (List.mem_filter.1 (List.mem_of_getLast? ha)).1
    exact (hf.2 x hx).2 b hb)
 have Hbl := hZ9 (show ∀ (s : ByteArray) (t : Int), (bsOf (atL P s t)).length ≤ 100 from fun s t => by
  cases ha : atL P s t with
  | none => exact Nat.zero_le _
  | some x =>
    have hx : x ∈ P := by
     unfold atL at ha
     exact (List.mem_filter.1 (List.mem_of_getLast? ha)).1
    exact (hf.2 x hx).1)
 have Hnone := hZ9 (show firstP A c = none → grantB P ac (sb, pr) A c = [] from fun h => by unfold grantB; rw [h])
 have Hsome := hZ9 (show ∀ q, firstP A c = some q → grantB P ac (sb, pr) A c = grantsL ac (sb, pr) q (bsOf (atL P pr q.1)) from fun q h => by unfold grantB; rw [h])
 have HW := hZ9 hW
 have Hw0 := hZ9 hw0
 have R0 := hZ9 r0
 have R1 := hZ9 r1
 obtain ⟨av, cap, e, hlc, hm, -⟩ := hA
 cases e
 have hm := hm.1
 unfold maxLen at hm
 obtain ⟨pav, pcap, rfl, -, -, -⟩ := hp
 have a3 := cell_of_row W _ 3 _ _ _ r0
 clear hW r0 r1 hw0 hf hs
 generalize grantB P ac (sb, pr) A c = GG at *
 go_enter Tryz.func56, Tryz.ntmps56
 go_upto_region 1 with (fail)
 rw [← HW.out]
 go_wp2_with fail
 go_loopw [20] (fun i wr => ∃ k : Nat, k ≤ A.length ∧ i = .int .i64 k ∧ (A.take k).any (fun p => meetB p.1 p.2 c.1 c.2) = false ∧ Below W.heap.size W wr) (fun i _ => A.length - (intOf i).toNat)
 case atStart => exact ⟨0, Nat.zero_le _, rfl, rfl, Below.refl _ _⟩
 case round =>
  obtain ⟨wo, rfl⟩ : ∃ wo : World, wo = wr := ⟨_, rfl⟩
  obtain ⟨k, hk, rfl, hn, hb⟩ := hrel
  have Hn := hZ9 hn
  have Hb := hZ9 hb
  by_cases hlt : k < A.length
  · have hk1 : (k : Int) < (A.length : Int) := by omega
    have hk0 : (0 : Int) ≤ (k : Int) := Int.natCast_nonneg _
    obtain ⟨a3, c3, e3, -, -, hx⟩ := HA.out.below hb
    cases e3
    obtain ⟨bb, o, rfl, hB, hx⟩ := hx (by rintro rfl; cases hlt)
    obtain ⟨x0, x1⟩ := hx k hlt
    have HH := hZ9 (fun h2 => firstP_hit (c := c) hlt Hn.out h2)
    have HT := hZ9 (fun h2 => any_take (p := fun p : Int × Int => meetB p.1 p.2 c.1 c.2) hlt Hn.out h2)
    clear hx hn
    generalize A[k] = p at *
    obtain ⟨Y, hY⟩ : ∃ Y, Y = wo.alloc (Obj.cells #[.int .i64 p.1, .int .i64 p.2] 25) := ⟨_, rfl⟩
    have hbY : Below wo.heap.size wo Y := by rw [hY]; exact (Below.refl _ _).alloc (Nat.le_refl _) _
    have YN := hZ9 (show Y.heap[wo.heap.size]? = some (Obj.cells #[.int .i64 p.1, .int .i64 p.2] 25) by rw [hY]; exact heap_alloc_new _ _)
    have hbW := hb.trans (hbY.mono hb.size)
    have HbW := hZ9 hbW
    have Y1 := hZ9 ((hbW.block _ hz0).trans R1.out)
    have HY := hZ9 hY
    clear hY hbY hb
    have y0 := cell_of_row Y _ 0 _ _ _ YN.out
    have y1 := cell_of_row Y _ 1 _ _ _ YN.out
    have z0 := cell_of_row Y _ 0 _ _ _ Y1.out
    have z1 := cell_of_row Y _ 1 _ _ _ Y1.out
    have HI := hZ9 (intersect_calls p.1 p.2 c.1 c.2 Y)
    cases hme : meetB p.1 p.2 c.1 c.2 with
    | false =>
      have HE := hZ9 (HT.out hme)
      unfold meetV at HI
      rw [hme, if_neg (by decide)] at HI
      clear hme
      go_upto_region 4 with (fail)
      rw [← HY.out]
      go_wp2_with fail
      refine HI.out.mono ?_
      rintro e w3 ⟨rfl, hb3⟩
      have Hb3 := hZ9 (HbW.out.trans ((hb3.alloc hb3.size (Obj.cells #[.int .i64 0, .int .i64 0] 25)).mono HbW.out.size))
      clear hb3 y0 y1 z0 z1
      go_wp2
      exact ⟨⟨k + 1, by omega, by go_num, HE.out, Hb3.out⟩, by simp [intOf]; omega⟩
    | true =>
      have HF := hZ9 (HH.out hme)
      unfold meetV at HI
      rw [hme, if_pos rfl] at HI
      clear hme
      go_upto_region 4 with (fail)
      rw [← HY.out]
      go_wp2_with fail
      refine HI.out.mono ?_
      rintro e w3 ⟨rfl, hb3⟩
      obtain ⟨q, hq⟩ : ∃ q : Int × Int, q = (max p.1 c.1, min p.2 c.2) := ⟨_, rfl⟩
      have hq1 : max p.1 c.1 = q.1 := by rw [hq]
      have hq2 : min p.2 c.2 = q.2 := by rw [hq]
      have HG := hZ9 (Hsome.out q (by rw [hq]; exact HF.out))
      rw [hq1, hq2]
      clear hq hq1 hq2 HF HI HH HT y0 y1 z0 z1 x0 x1
      obtain ⟨V, hV⟩ : ∃ V, V = w3.alloc (Obj.cells #[.int .i64 q.1, .int .i64 q.2] 25) := ⟨_, rfl⟩
      have hbV : Below w3.heap.size w3 V := by rw [hV]; exact (Below.refl _ _).alloc (Nat.le_refl _) _
      have VN := hZ9 (show V.heap[w3.heap.size]? = some (Obj.cells #[.int .i64 q.1, .int .i64 q.2] 25) by rw [hV]; exact heap_alloc_new _ _)
      have hbV2 := HbW.out.trans ((hb3.trans (hbV.mono hb3.size)).mono HbW.out.size)
      have HbV := hZ9 hbV2
      have V0 := hZ9 ((hbV2.block _ (by omega)).trans R0.out)
      have HV := hZ9 hV
      clear hV hbV hbV2 hb3
      have v0 := cell_of_row V _ 0 _ _ _ VN.out
      have v2 := cell_of_row V _ 2 _ _ _ V0.out
      have HAt := hZ9 (pat_calls _ P pr q.1 V (HP.out.below HbV.out) Hf.out)
      have HzB := hZ9 (Hzs.out pr q.1)
      have HlB := hZ9 (Hbl.out pr q.1)
      have hVn : w3.heap.size < V.heap.size := (ltB9 VN.out)
      go_upto_region 6 with (fail)
      rw [← HV.out]
      go_wp2_with fail
      refine HAt.out.mono ?_
      intro e w4 hAt
      obtain ⟨nm, ct, fm, fe, pro, ba, bc, rfl, hbs, hbc1, hbc2, hb4⟩ := atBs hAt
      generalize bsOf (atL P pr q.1) = bs at *
      generalize (atL P pr q.1).isSome = som at *
      have hbl := HlB.out
      unfold maxLen at hbc2
      obtain ⟨T, hT⟩ : ∃ T, T = w4.alloc (Obj.cells #[.string nm, .int .i64 fm, .int .i64 fe, .string ct, .bool pro, .slice ba bs.length bc] 72) := ⟨_, rfl⟩
      have hbT : Below w4.heap.size w4 T := by rw [hT]; exact (Below.refl _ _).alloc (Nat.le_refl _) _
      have TN := hZ9 (show T.heap[w4.heap.size]? = some (Obj.cells #[.string nm, .int .i64 fm, .int .i64 fe, .string ct, .bool pro, .slice ba bs.length bc] 72) by rw [hT]; exact heap_alloc_new _ _)
      have hbT2 := hb4.trans (hbT.mono hb4.size)
      have HBs := hZ9 (hbs.below hbT)
      have T0 := hZ9 ((hbT2.block _ (by have := HbV.out.size; omega)).trans V0.out)
      have TV := hZ9 ((hbT2.block _ hVn).trans VN.out)
      have HbT := hZ9 (HbV.out.trans (hbT2.mono HbV.out.size))
      have HT := hZ9 hT
      have t5 := cell_of_row T _ 5 _ _ _ TN.out
      clear hT hbT hbT2 hb4 hbs hAt v0 v2
      go_upto_region 8 with (fail)
      rw [← HT.out]
      go_wp2_with fail
      clear t5
      go_loopw [13, 44] (fun vo i wr => ∃ (j : Nat) (O : List (BuX × Int)), j ≤ bs.length ∧ i = .int .i64 j ∧ RowKit.Hid (plG O = grantsL ac (sb, pr) q (bs.take j)) ∧ O.length = j ∧ wr.ownsRow T.heap.size 122 13 vo O.length (O.flatMap grCells) ∧ (∀ x ∈ O, BuRd T x.1) ∧ Below T.heap.size T wr) (fun _ i _ => bs.length - (intOf i).toNat)
      case atStart => exact ⟨0, [], Nat.zero_le _, rfl, hZ9 rfl, rfl, World.ownsRow_nil _ _ _ _, fun x hx => (by cases hx), Below.refl _ _⟩
      case round =>
       obtain ⟨wo2, rfl⟩ : ∃ wo2 : World, wo2 = wr := ⟨_, rfl⟩
       obtain ⟨j, O, hj, rfl, HO, hOl, hown, hrd, hb⟩ := hrel
       obtain ⟨a, cp, rfl, hc1, hc2⟩ := own_shape hown
       unfold maxLen at hc2
       have Hown := hZ9 hown
       have Hrd := hZ9 hrd
       have Hbo := hZ9 hb
       have hOl1 : O.length ≤ 100 := by omega
       have HOl := hZ9 hOl
       clear hOl hrd
       by_cases hjt : j < bs.length
       · have hj1 : (j : Int) < (bs.length : Int) := by omega
         have hj0 : (0 : Int) ≤ (j : Int) := Int.natCast_nonneg _
         have HG1 := hZ9 (grantsL_take ac (sb, pr) q bs j hjt)
         have HZl := hZ9 (HzB.out _ (List.getElem_mem hjt))
         obtain ⟨a3, c3, e3, -, -, hx⟩ := HBs.out
         cases e3
         obtain ⟨bb2, o2, rfl, hB2, hx⟩ := hx (by rintro rfl; cases hjt)
         have hbd := hx j hjt
         clear hx
         generalize bs[j] = bd at *
         obtain ⟨za, zc, z0, z1, hzs, z2, z3, z4, z5⟩ := bd_zones hbd
         have Hz := hZ9 hzs
         have x0 := (hb.cell (p := ⟨bb2, _, none⟩) hB2).trans z0
         have x1 := (hb.cell (p := ⟨bb2, _, none⟩) hB2).trans z1
         have x2 := (hb.cell (p := ⟨bb2, _, none⟩) hB2).trans z2
         have x3 := (hb.cell (p := ⟨bb2, _, none⟩) hB2).trans z3
         have x4 := (hb.cell (p := ⟨bb2, _, none⟩) hB2).trans z4
         have x5 := (hb.cell (p := ⟨bb2, _, none⟩) hB2).trans z5
         have hB2 : bb2 < wo2.heap.size := Nat.lt_of_lt_of_le hB2 hb.size
         clear z0 z1 z2 z3 z4 z5
         clear hzs hbd
         obtain ⟨X, hX⟩ : ∃ X, X = wo2.alloc (Obj.cells #[.int .i64 bd.kd, .slice za bd.zs.length zc, .int .i64 bd.un, .int .i64 bd.ro, .int .i64 bd.pr, .bool bd.sh] 76) := ⟨_, rfl⟩
         have HX := hZ9 hX
         have hbX : Below wo2.heap.size wo2 X := by rw [hX]; exact (Below.refl _ _).alloc (Nat.le_refl _) _
         have hbX2 := hb.trans (hbX.mono hb.size)
         have XN := hZ9 (show X.heap[wo2.heap.size]? = some (Obj.cells #[.int .i64 bd.kd, .slice za bd.zs.length zc, .int .i64 bd.un, .int .i64 bd.ro, .int .i64 bd.pr, .bool bd.sh] 76) by rw [hX]; exact heap_alloc_new _ _)
         have X0 := hZ9 ((hbX2.block _ (by have := HbT.out.size; omega)).trans T0.out)
         have XV := hZ9 ((hbX2.block _ (ltB9 TV.out)).trans TV.out)
         obtain ⟨U, hU⟩ : ∃ U, U = X.alloc (Obj.cells #[.int .i64 ac, .int .i64 sb, .string pr, .int .i64 (j : Int), .int .i64 bd.kd, .slice za bd.zs.length zc, .int .i64 q.1, .int .i64 q.2, .int .i64 bd.un, .int .i64 bd.un, .int .i64 bd.pr, .bool bd.sh] 60) := ⟨_, rfl⟩
         have hbXU : Below X.heap.size X U := by rw [hU]; exact (Below.refl _ _).alloc (Nat.le_refl _) _
         have U1 := hZ9 (show U.heap[X.heap.size]? = some (Obj.cells #[.int .i64 ac, .int .i64 sb, .string pr, .int .i64 (j : Int), .int .i64 bd.kd, .slice za bd.zs.length zc, .int .i64 q.1, .int .i64 q.2, .int .i64 bd.un, .int .i64 bd.un, .int .i64 bd.pr, .bool bd.sh] 60) by rw [hU]; exact heap_alloc_new _ _)
         have U0 := hZ9 ((hbXU.block _ (ltB9 XN.out)).trans XN.out)
         have hbU := hbX.trans (hbXU.mono hbX.size)
         have HbU := hZ9 hbU
         have hbU2 := hb.trans (hbU.mono hb.size)
         have HbU2 := hZ9 hbU2
         have HU := hZ9 hU
         clear hU hX hbU hbU2 hbX hbX2 hbXU hb
         go_upto_region 11 with (fail)
         rw [← HX.out]
         clear x0 x1 x2 x3 x4 x5
         have h0 := cell_of_row X _ 0 _ _ _ X0.out
         have h1 := cell_of_row X _ 1 _ _ _ X0.out
         have h2 := cell_of_row X _ 2 _ _ _ X0.out
         have v0 := cell_of_row X _ 0 _ _ _ XV.out
         have v1 := cell_of_row X _ 1 _ _ _ XV.out
         have tQ := fun j => cell_of_row X _ j _ _ _ XN.out
         have b0 := tQ 0
         have b1 := tQ 1
         have b2 := tQ 2
         have b3 := tQ 3
         have b4 := tQ 4
         have b5 := tQ 5
         clear tQ
         go_upto_region 12 with (fail)
         rw [← HU.out]
         clear h0 h1 h2 v0 v1 b0 b1 b2 b3 b4 b5
         have tQ := fun j => cell_of_row U _ j _ _ _ U1.out
         have m0 := tQ 0
         have m1 := tQ 1
         have m2 := tQ 2
         have m3 := tQ 3
         have m4 := tQ 4
         have m5 := tQ 5
         have m6 := tQ 6
         have m7 := tQ 7
         have m8 := tQ 8
         have m9 := tQ 9
         have m10 := tQ 10
         have m11 := tQ 11
         clear tQ
         have n3 := cell_of_row U _ 3 _ _ _ U0.out
         have HRX := hZ9 (RecAt.one (c := grCells) (sz := 13) U ((⟨buOf ac (sb, pr) q (j : Int) bd, za, bd.zs.length, zc⟩ : BuX), bd.ro) 122 #[.int .i64 ac, .int .i64 sb, .string pr, .int .i64 (j : Int), .int .i64 bd.kd, .slice za bd.zs.length zc, .int .i64 q.1, .int .i64 q.2, .int .i64 bd.un, .int .i64 bd.un, .int .i64 bd.pr, .bool bd.sh, .int .i64 bd.ro] rfl)
         have HownU := hZ9 (ownsRow_below Hown.out HbU.out)
         have hbs := HbU2.out.size
         go_wp2_with (at_builtin; refine append_gr rfl _ _ rfl T.heap.size (Nat.le_trans hbs (World.le_alloc _ _)) _ _ O [((⟨buOf ac (sb, pr) q (j : Int) bd, za, bd.zs.length, zc⟩ : BuX), bd.ro)] rfl rfl (HownU.out.alloc _) HRX.out (by rw [List.length_singleton]; omega) ?_)
         intro R hR v5 w5 own5 hg5
         have Hg5 := hZ9 hg5
         have HRe := hZ9 (show plG R = grantsL ac (sb, pr) q (bs.take (j + 1)) by rw [hR.out, HG1.out, ← HO.out]; unfold plG; rw [List.map_append]; rfl)
         have HRl := hZ9 (show R.length = j + 1 by rw [hR.out, List.length_append, HOl.out]; rfl)
         have HR5 := hZ9 (show ∀ x ∈ R, BuRd T x.1 from fun x hx => by
          rw [hR.out] at hx
          rcases List.mem_append.1 hx with hx | hx
          · exact Hrd.out x hx
          rw [List.mem_singleton.1 hx]
          exact ⟨Hz.out, Hs.out, by show bd.zs.length * 16 ≤ _; have := HZl.out; omega⟩)
         have Hb5 := hZ9 ((HbU2.out.alloc hbs (Obj.cells #[.int .i64 ac, .int .i64 sb, .string pr, .int .i64 (j : Int), .int .i64 bd.kd, .slice za bd.zs.length zc, .int .i64 q.1, .int .i64 q.2, .int .i64 bd.un, .int .i64 bd.un, .int .i64 bd.pr, .bool bd.sh, .int .i64 bd.ro] 122)).grown Hg5.out (Nat.le_trans hbs (World.le_alloc _ _)) (fun g hg => (ownsRow_block HownU.out g hg).1))
         have Own5 := hZ9 own5
         clear own5 hg5 hR hbs m0
         go_wp2
         exact ⟨⟨j + 1, R, by omega, by go_num, HRe, HRl.out, Own5.out, HR5.out, Hb5.out⟩, by simp [intOf]; omega⟩
       have HE := hZ9 (show plG O = GG by rw [HG.out, HO.out, List.take_of_length_le (by omega)])
       have HbF := hZ9 (Hw0.out.trans ((HbT.out.trans (Hbo.out.mono HbT.out.size)).mono Hw0.out.size))
       have Own5 := hZ9 (own_down Hown.out (show w.heap.size ≤ T.heap.size by have := HbT.out.size; omega))
       clear hown hb HG
       go_wp2
       go_ret
       exact ⟨_, _, O, rfl, Own5.out, HE.out, fun x hx => (Hrd.out x hx).below Hbo.out, HbF.out⟩
  have HE := hZ9 (Hnone.out (firstP_end (by omega) Hn.out))
  have HbF := hZ9 (Hw0.out.trans (hb.mono Hw0.out.size))
  clear hb hn
  go_wp2
  go_ret
  exact ⟨none, 0, [], rfl, World.ownsRow_nil _ _ _ _, HE.out.symm, fun x hx => (by cases hx), HbF.out⟩
def anchorL (l : List Ev) (n : Int) : Int := match openE l n with
 | some e => e.vl
 | none => 0
theorem anchor_calls (v : Value) (l : List Ev) (n : Int) (w : World) (h : EvsAt w v l) :
 Calls Tryz.prog 53 #[v, .int .i64 n] w fun e w' => e = .returned (.int .i64 (anchorL l n)) ∧ Below w.heap.size w w' := by
 have HE := hZ9 h.1
 obtain ⟨av, cap, rfl, hlc, hcm⟩ := rec_shape h.1
 unfold maxLen at hcm
 clear h
 go_enter Tryz.func53, Tryz.ntmps53
 go_wp2_with fail
 go_loopw [9] (fun i wr => ∃ k : Nat, k ≤ l.length ∧ i = .int .i64 k ∧ (l.take k).any (isOpen n) = false ∧ Below w.heap.size w wr) (fun i _ => l.length - (intOf i).toNat)
 case atStart => exact ⟨0, Nat.zero_le _, rfl, rfl, Below.refl _ _⟩
 case round =>
  obtain ⟨wo, rfl⟩ : ∃ wo : World, wo = wr := ⟨_, rfl⟩
  obtain ⟨k, hk, rfl, hno, hb⟩ := hrel
  have Hno := hZ9 hno
  have Hb := hZ9 hb
  clear hno
  by_cases hlt : k < l.length
  · have hk1 : (k : Int) < (l.length : Int) := by omega
    have hk0 : (0 : Int) ≤ (k : Int) := Int.natCast_nonneg _
    obtain ⟨a2, n2, e2, -, -, hx⟩ := HE.out.below hb
    cases e2
    obtain ⟨bb, o, rfl, hB, hx⟩ := hx (by rintro rfl; cases hlt)
    have x0 : wo.cell? ⟨bb, o + k * 7, none⟩ = some (.int .i64 (l[k]).tm) := hx k hlt 0 (by decide)
    have x1 : wo.cell? ⟨bb, o + k * 7 + 1, none⟩ = some (.int .i64 (l[k]).kd) := hx k hlt 1 (by decide)
    have x2 : wo.cell? ⟨bb, o + k * 7 + 2, none⟩ = some (.int .i64 (l[k]).ac) := hx k hlt 2 (by decide)
    have x3 : wo.cell? ⟨bb, o + k * 7 + 3, none⟩ = some (.int .i64 (l[k]).sb) := hx k hlt 3 (by decide)
    have x4 : wo.cell? ⟨bb, o + k * 7 + 4, none⟩ = some (.string (l[k]).nu) := hx k hlt 4 (by decide)
    have x5 : wo.cell? ⟨bb, o + k * 7 + 5, none⟩ = some (.string (l[k]).nm) := hx k hlt 5 (by decide)
    have x6 : wo.cell? ⟨bb, o + k * 7 + 6, none⟩ = some (.int .i64 (l[k]).vl) := hx k hlt 6 (by decide)
    have HH := hZ9 (fun hp => find_none (p := isOpen n) hlt Hno.out hp)
    have HT := hZ9 (fun hp => any_take (p := isOpen n) hlt Hno.out hp)
    clear hx hb
    generalize l[k] = ev at *
    obtain ⟨Y, hY⟩ : ∃ Y, Y = wo.alloc (Obj.cells #[.int .i64 ev.tm, .int .i64 ev.kd, .int .i64 ev.ac, .int .i64 ev.sb, .string ev.nu, .string ev.nm, .int .i64 ev.vl] 55) := ⟨_, rfl⟩
    have YN := hZ9 (show Y.heap[wo.heap.size]? = some (Obj.cells #[.int .i64 ev.tm, .int .i64 ev.kd, .int .i64 ev.ac, .int .i64 ev.sb, .string ev.nu, .string ev.nm, .int .i64 ev.vl] 55) by rw [hY]; exact heap_alloc_new _ _)
    have HbY := hZ9 (show Below w.heap.size w Y by rw [hY]; exact Hb.out.alloc Hb.out.size _)
    have HY := hZ9 hY
    clear hY
    go_upto_region 4 with (fail)
    rw [← HY.out]
    clear x0 x1 x2 x3 x4 x5 x6
    have tQ := fun j => cell_of_row Y _ j _ _ _ YN.out
    have x0 := tQ 0
    have x1 := tQ 1
    have x2 := tQ 2
    have x3 := tQ 3
    have x4 := tQ 4
    have x5 := tQ 5
    have x6 := tQ 6
    clear tQ
    obtain ⟨tm, kd, ac, sb, nu, nm, vl⟩ := ev
    dsimp only at x0 x1 x2 x3 x4 x5 x6
    cases hq1 : (kd == 1) with
    | false =>
      have HE2 := hZ9 (HT.out (by unfold isOpen; rw [show decide (kd = 1) = false from decide_eq_false (beq_eq_false_iff_ne.1 hq1)]; rfl))
      clear HH HT
      go_wp2
      exact ⟨⟨k + 1, by omega, by go_num, HE2.out, HbY.out⟩, by simp [intOf]; omega⟩
    | true =>
      cases hq2 : (ac == n) with
      | false =>
        have HE2 := hZ9 (HT.out (by unfold isOpen; rw [show decide (ac = n) = false from decide_eq_false (beq_eq_false_iff_ne.1 hq2), Bool.and_false]))
        clear HH HT
        go_wp2
        exact ⟨⟨k + 1, by omega, by go_num, HE2.out, HbY.out⟩, by simp [intOf]; omega⟩
      | true =>
        have HE2 := hZ9 (HH.out (by unfold isOpen; rw [show decide (kd = 1) = true from decide_eq_true (beq_iff_eq.1 hq1), show decide (ac = n) = true from decide_eq_true (beq_iff_eq.1 hq2)]; rfl))
        clear HH HT
        go_wp2
        go_ret
        exact ⟨ret_int (by unfold anchorL openE; rw [HE2.out]), HbY.out⟩
  have HE2 := hZ9 (find_all (p := isOpen n) (by omega) Hno.out)
  go_wp2
  go_ret
  exact ⟨ret_int (by unfold anchorL openE; rw [HE2.out]), hb⟩
theorem bu_one (a : BuX) : ∀ u ∈ buCells a, u.oneCell' = true := by
 intro u hu
 unfold buCells at hu
 simp only [List.mem_cons, List.not_mem_nil, or_false] at hu
 rcases hu with rfl | rfl | rfl | rfl | rfl | rfl | rfl | rfl | rfl | rfl | rfl | rfl <;> rfl
theorem Tryz.buInfo : (Tryz.prog.info? 60).map (fun i => (i.zero, i.size, i.bytes)) = some (some (.agg #[.int .i64 0, .int .i64 0, .string ⟨#[]⟩, .int .i64 0, .int .i64 0, .slice none 0 0, .int .i64 0, .int .i64 0, .int .i64 0, .int .i64 0, .int .i64 0, .bool false]), 12, 120) := by kernel_rfl
theorem append_bu {w : World} {ops : Array Oper} {rest : List Oper} {o : Oper} {a : Act} {Q : Exit → Act → World → Prop} (hgd : o.guard = none) (s x : Operand)
 (ho : o.op = .call { callee := .builtin .append, args := #[s, x], argTypes := #[41, 41] })
 (base : Nat) (hbase : base ≤ w.heap.size) (v vx : Value) (L X : List BuX) (hs : a.eval s = v) (hx : a.eval x = vx) (hown : w.ownsRow base 60 12 v L.length (L.flatMap buCells)) (hX : RecAt buCells 12 w vx X) (hlen : L.length + X.length ≤ 1000000)
 (h : ∀ R : List BuX, RowKit.Hid (R = L ++ X) → ∀ v' w', w'.ownsRow base 60 12 v' R.length (R.flatMap buCells) → w.grownBy w' v.ownBlock → wpList Tryz.prog ops Q rest (a.put o.dst v') w') : wpList Tryz.prog ops Q (o :: rest) a w :=
 append_rec2 (c := buCells) (sz := 12) (fun _ => rfl) bu_one 60 41 _ 120 Tryz.underlying41 Tryz.buInfo rfl (by decide) hgd s x ho base hbase v vx L X hs hx hown hX (by unfold maxLen; omega) (by omega) h
def BusTo (L : List Bu) (w : World) (e : Ending) (w' : World) : Prop := ∃ (a : Option Addr) (c : Nat) (X : List BuX), e = .returned (.slice a X.length c) ∧ w'.ownsRow w.heap.size 60 12 (.slice a X.length c) X.length (X.flatMap buCells) ∧ plB X = L ∧ (∀ x ∈ X, BuRd w' x) ∧ Below w.heap.size w w'
theorem BusTo.none {L : List Bu} {w w' : World} (h : L = []) (hb : Below w.heap.size w w') : BusTo L w (.returned (.slice none 0 0)) w' := ⟨_, _, [], rfl, World.ownsRow_nil _ _ _ _, h.symm, fun x hx => (by cases hx), hb⟩
theorem intersect_calls' (f t f2 t2 : Int) (w : World) : Calls Tryz.prog 30 #[.agg #[.int .i64 f, .int .i64 t], .agg #[.int .i64 f2, .int .i64 t2]] w fun e w' => e = .returned (.tuple #[.agg #[.int .i64 (if meetB f t f2 t2 = true then ((max f f2, min t t2) : Int × Int) else (0, 0)).1, .int .i64 (if meetB f t f2 t2 = true then ((max f f2, min t t2) : Int × Int) else (0, 0)).2], .bool (meetB f t f2 t2)]) ∧ Below w.heap.size w w' := by
 have h := rintersect_calls f t f2 t2 w
 unfold meetV at h
 cases hm : meetB f t f2 t2 with
 | false => rw [hm] at h; exact h
 | true => rw [hm] at h; exact h
def GsTo (G : List (Bu × Int)) (w : World) (e : Ending) (w' : World) : Prop := ∃ (a : Option Addr) (c : Nat) (X : List BuX) (ba : Option Addr) (bc : Nat) (bs : List Bd), e = .returned (.tuple #[.slice a X.length c, .slice ba bs.length bc]) ∧ w'.ownsRow w.heap.size 60 12 (.slice a X.length c) X.length (X.flatMap buCells) ∧ plB X = G.map (·.1) ∧ (∀ x ∈ X, BuO w.heap.size w' x) ∧ BdsAt w' (.slice ba bs.length bc) bs ∧ bs.map (·.ro) = G.map (·.2) ∧ Below w.heap.size w w'
theorem GsTo.none {G : List (Bu × Int)} {w w' : World} (h : G = []) (hb : Below w.heap.size w w') : GsTo G w (.returned (.tuple #[.slice none 0 0, .slice none 0 0])) w' :=
 ⟨_, _, [], _, _, [], rfl, World.ownsRow_nil _ _ _ _, by rw [h]; rfl, fun x hx => (by cases hx), bds_nil _, by rw [h]; rfl, hb⟩
theorem bu_block {w : World} {g : Nat} {cs : Array Value} {t : TypeId} {fr : Nat × Nat} (hg : w.heap[g]? = some (.cells cs t fr)) (x : BuX) (h : cs = (buCells x).toArray) : RecAt buCells 12 w (.slice (some ⟨g, 0, none⟩) 1 1) [x] := rec_block hg x h
def GsVal (G : List (Bu × Int)) (B : Nat) (w : World) (y : Value) : Prop := ∃ (a : Option Addr) (c : Nat) (X : List BuX) (ba : Option Addr) (bc : Nat) (bs : List Bd), y = .tuple #[.slice a X.length c, .slice ba bs.length bc] ∧ w.ownsRow B 60 12 (.slice a X.length c) X.length (X.flatMap buCells) ∧ plB X = G.map (·.1) ∧ (∀ x ∈ X, BuO B w x) ∧ BdsAt w (.slice ba bs.length bc) bs ∧ bs.map (·.ro) = G.map (·.2)
def BuVal (G : List (Bu × Int)) (B : Nat) (w : World) (y : Value) : Prop := ∃ (a : Option Addr) (c : Nat) (X : List BuX), y = .slice a X.length c ∧ w.ownsRow B 60 12 (.slice a X.length c) X.length (X.flatMap buCells) ∧ plB X = G.map (·.1) ∧ (∀ x ∈ X, BuO B w x)
def BdVal (G : List (Bu × Int)) (w : World) (y : Value) : Prop := ∃ (ba : Option Addr) (bc : Nat) (bs : List Bd), y = .slice ba bs.length bc ∧ BdsAt w (.slice ba bs.length bc) bs ∧ bs.map (·.ro) = G.map (·.2)
theorem GsVal.below {G : List (Bu × Int)} {B : Nat} {w w' : World} {y : Value} (h : GsVal G B w y) (hb : Below w.heap.size w w') : GsVal G B w' y := by
 obtain ⟨a, c, X, ba, bc, bs, h1, h2, h3, h4, h5, h6⟩ := h
 exact ⟨a, c, X, ba, bc, bs, h1, ownsRow_below h2 hb, h3, fun x hx => (h4 x hx).below hb, h5.below hb, h6⟩
theorem BuVal.below {G : List (Bu × Int)} {B : Nat} {w w' : World} {y : Value} (h : BuVal G B w y) (hb : Below w.heap.size w w') : BuVal G B w' y := by
 obtain ⟨a, c, X, h1, h2, h3, h4⟩ := h
 exact ⟨a, c, X, h1, ownsRow_below h2 hb, h3, fun x hx => (h4 x hx).below hb⟩
theorem BdVal.below {G : List (Bu × Int)} {w w' : World} {y : Value} (h : BdVal G w y) (hb : Below w.heap.size w w') : BdVal G w' y := by
 obtain ⟨ba, bc, bs, h1, h5, h6⟩ := h
 exact ⟨ba, bc, bs, h1, h5.below hb, h6⟩
def PeVal (A : List (Int × Int)) (w : World) (y : Value) : Prop := ∃ (a : Option Addr) (c : Nat), y = .slice a A.length c ∧ PersAt w (.slice a A.length c) A
theorem PeVal.below {A : List (Int × Int)} {w w' : World} {y : Value} (h : PeVal A w y) (hb : Below w.heap.size w w') : PeVal A w' y := by
 obtain ⟨a, c, h1, h2⟩ := h
 exact ⟨a, c, h1, h2.below hb⟩
def HoVal (ac sb : Int) (pr : ByteArray) (A : List (Int × Int)) (w : World) (y : Value) : Prop := ∃ (a : Option Addr) (c : Nat), y = .agg #[.int .i64 ac, .int .i64 sb, .string pr, .slice a A.length c] ∧ PersAt w (.slice a A.length c) A
theorem HoVal.below {ac sb : Int} {pr : ByteArray} {A : List (Int × Int)} {w w' : World} {y : Value} (h : HoVal ac sb pr A w y) (hb : Below w.heap.size w w') : HoVal ac sb pr A w' y := by
 obtain ⟨a, c, h1, h2⟩ := h
 exact ⟨a, c, h1, h2.below hb⟩
def idIs (sb : Int) (pr : ByteArray) (ix f : Int) (b : Bu) : Bool := decide (b.sb = sb) && sameS b.pr pr && decide (b.ix = ix) && decide (b.f = f)
theorem existsB_ix (L : List Bu) (b : Bu) : decide (0 ≤ ixOf (idIs b.sb b.pr b.ix b.f) L) = existsB L b := by
 unfold existsB
 show decide (0 ≤ ixOf (fun x => sameId x b) L) = L.any (fun x => sameId x b)
 rcases ixOf_cases (fun x => sameId x b) L with ⟨h1, h2⟩ | ⟨k, hk, h1, h2, -⟩
 · rw [h1, h2]; rfl
 rw [h1, any_hit (p := fun x => sameId x b) hk h2]
 exact decide_eq_true (Int.natCast_nonneg _)
theorem ixOf_plB (p : Bu → Bool) (X : List BuX) : ixOf p (plB X) = ixOf (fun x : BuX => p x.b) X := by
 unfold plB ixOf
 rw [List.any_map, List.findIdx_map]
 rfl
theorem addr_plus (b o j : Nat) : (⟨b, o, none⟩ : Addr).add j = ⟨b, o + j, none⟩ := by unfold Addr.add; split <;> simp_all
theorem kT_map {α β : Type} (f : α → β) (p : β → Bool) : ∀ l : List α, kT p (l.map f) = kT (fun x => p (f x)) l
 | [] => rfl
 | x :: r => by
   unfold kT
   rw [List.map_cons, List.takeWhile_cons, List.takeWhile_cons]
   split
   · rw [List.length_cons, List.length_cons]; exact congrArg (· + 1) (kT_map f p r)
   rfl
theorem plB_ins (x : BuX) (X : List BuX) : plB (insT (fun y : BuX => earlB y.b x.b) x X) = insB x.b (plB X) := by
 unfold insB insT plB
 rw [kT_map]
 simp only [List.map_append, List.map_take, List.map_drop, List.map_cons, List.map_nil]
theorem find33_calls (v : Value) (X : List BuX) (sb : Int) (pr : ByteArray) (ix f un : Int) (w : World) (h : RecAt buCells 12 w v X) :
 Calls Tryz.prog 26 #[v, .agg #[.int .i64 sb, .string pr, .int .i64 ix, .int .i64 f, .int .i64 un]] w fun e w' => e = .returned (.int .i64 (ixOf (idIs sb pr ix f) (plB X))) ∧ Below w.heap.size w w' := by
 rw [ixOf_plB]
 obtain ⟨W, hW⟩ : ∃ W, W = w.alloc (Obj.cells #[.int .i64 sb, .string pr, .int .i64 ix, .int .i64 f, .int .i64 un] 63) := ⟨_, rfl⟩
 have hw0 : Below w.heap.size w W := by rw [hW]; exact (Below.refl _ _).alloc (Nat.le_refl _) _
 have R0 := hZ9 (show W.heap[w.heap.size]? = some (Obj.cells #[.int .i64 sb, .string pr, .int .i64 ix, .int .i64 f, .int .i64 un] 63) by rw [hW]; exact heap_alloc_new _ _)
 have hwn : w.heap.size < W.heap.size := (ltB9 R0.out)
 have HA := hZ9 (h.below hw0)
 have Hw0 := hZ9 hw0
 have HW := hZ9 hW
 obtain ⟨av, cap, rfl, hlc, hcm⟩ := rec_shape h
 unfold maxLen at hcm
 clear hW hw0 h
 have HI := hZ9 (show ∀ x : BuX, idIs sb pr ix f x.b = (decide (x.b.sb = sb) && sameS x.b.pr pr && decide (x.b.ix = ix) && decide (x.b.f = f)) from fun x => rfl)
 go_enter Tryz.func26, Tryz.ntmps26
 go_upto_region 1 with (fail)
 rw [← HW.out]
 go_wp2_with fail
 go_loopw [5] (fun i wr => ∃ k : Nat, k ≤ X.length ∧ i = .int .i64 k ∧ (X.take k).any (fun x : BuX => idIs sb pr ix f x.b) = false ∧ Below W.heap.size W wr) (fun i _ => X.length - (intOf i).toNat)
 case atStart => exact ⟨0, Nat.zero_le _, rfl, rfl, Below.refl _ _⟩
 case round =>
  obtain ⟨wo, rfl⟩ : ∃ wo : World, wo = wr := ⟨_, rfl⟩
  obtain ⟨k, hk, rfl, hn, hb⟩ := hrel
  have Hn := hZ9 hn
  have Hb := hZ9 hb
  by_cases hlt : k < X.length
  · have hk1 : (k : Int) < (X.length : Int) := by omega
    have hk0 : (0 : Int) ≤ (k : Int) := Int.natCast_nonneg _
    obtain ⟨a3, c3, e3, -, -, hx⟩ := HA.out.below hb
    cases e3
    obtain ⟨bb, o, rfl, hB, hx⟩ := hx (by rintro rfl; cases hlt)
    have hx := hx k hlt
    obtain ⟨x0, x1, x2, x3, x4, x5, x6, x7, x8, x9, x10, x11⟩ := bu12 hx
    have HH := hZ9 (fun h2 => ixOf_hit (p := fun x : BuX => idIs sb pr ix f x.b) hlt Hn.out h2)
    have HT := hZ9 (fun h2 => any_take (p := fun x : BuX => idIs sb pr ix f x.b) hlt Hn.out h2)
    clear hx hn
    generalize X[k] = x at *
    have HIx := hZ9 (HI.out x)
    obtain ⟨Y, hY⟩ : ∃ Y, Y = wo.alloc (Obj.cells #[.int .i64 x.b.ac, .int .i64 x.b.sb, .string x.b.pr, .int .i64 x.b.ix, .int .i64 x.b.kd, .slice x.za x.zn x.zc, .int .i64 x.b.f, .int .i64 x.b.t, .int .i64 x.b.un, .int .i64 x.b.lf, .int .i64 x.b.pt, .bool x.b.sh] 60) := ⟨_, rfl⟩
    have YN := hZ9 (show Y.heap[wo.heap.size]? = some (Obj.cells #[.int .i64 x.b.ac, .int .i64 x.b.sb, .string x.b.pr, .int .i64 x.b.ix, .int .i64 x.b.kd, .slice x.za x.zn x.zc, .int .i64 x.b.f, .int .i64 x.b.t, .int .i64 x.b.un, .int .i64 x.b.lf, .int .i64 x.b.pt, .bool x.b.sh] 60) by rw [hY]; exact heap_alloc_new _ _)
    have hbY : Below W.heap.size W Y := by rw [hY]; exact hb.alloc hb.size _
    have HbY := hZ9 hbY
    have q0 := (hbY.block _ hwn).trans R0.out
    have HY := hZ9 hY
    clear hY hb hbY
    have tQ := fun j => cell_of_row Y _ j _ _ _ q0
    have s0 := tQ 0
    have s1 := tQ 1
    have s2 := tQ 2
    have s3 := tQ 3
    clear tQ
    clear q0
    go_upto_region 5 with (fail)
    rw [← HY.out]
    clear x0 x1 x2 x3 x4 x5 x6 x7 x8 x9 x10 x11
    have tQ := fun j => cell_of_row Y _ j _ _ _ YN.out
    have y1 := tQ 1
    have y2 := tQ 2
    have y3 := tQ 3
    have y6 := tQ 6
    clear tQ
    by_cases h0 : x.b.sb = sb
    · have k0 : (x.b.sb == sb) = true := beq_iff_eq.2 h0
      by_cases h1 : sameS x.b.pr pr = true
      · have k1 : (x.b.pr.toList == pr.toList) = true := h1
        by_cases h2 : x.b.ix = ix
        · have k2 : (x.b.ix == ix) = true := beq_iff_eq.2 h2
          by_cases h3 : x.b.f = f
          · have k3 : (x.b.f == f) = true := beq_iff_eq.2 h3
            have HE := hZ9 (HH.out (by rw [HIx.out]; simp [h0, h1, h2, h3]))
            clear HH HT HI HIx h0 h1 h2 h3
            go_wp2
            go_ret
            exact ⟨ret_int HE.out.symm, Hw0.out.trans (HbY.out.mono Hw0.out.size)⟩
          have k3 : (x.b.f == f) = false := beq_eq_false_iff_ne.2 h3
          have HE := hZ9 (HT.out (by rw [HIx.out]; simp [h3]))
          clear HH HT HI HIx h0 h1 h2 h3
          go_wp2
          exact ⟨⟨k + 1, by omega, by go_num, HE.out, HbY.out⟩, by simp [intOf]; omega⟩
        have k2 : (x.b.ix == ix) = false := beq_eq_false_iff_ne.2 h2
        have HE := hZ9 (HT.out (by rw [HIx.out]; simp [h2]))
        clear HH HT HI HIx h0 h1 h2
        go_wp2
        exact ⟨⟨k + 1, by omega, by go_num, HE.out, HbY.out⟩, by simp [intOf]; omega⟩
      have h1 : sameS x.b.pr pr = false := by simpa using h1
      have k1 : (x.b.pr.toList == pr.toList) = false := h1
      have HE := hZ9 (HT.out (by rw [HIx.out]; simp [h1]))
      clear HH HT HI HIx h0 h1
      go_wp2
      exact ⟨⟨k + 1, by omega, by go_num, HE.out, HbY.out⟩, by simp [intOf]; omega⟩
    have k0 : (x.b.sb == sb) = false := beq_eq_false_iff_ne.2 h0
    have HE := hZ9 (HT.out (by rw [HIx.out]; simp [h0]))
    clear HH HT HI HIx h0
    go_wp2
    exact ⟨⟨k + 1, by omega, by go_num, HE.out, HbY.out⟩, by simp [intOf]; omega⟩
  have HE := hZ9 (ixOf_end (p := fun x : BuX => idIs sb pr ix f x.b) (by omega) Hn.out)
  go_wp2
  go_ret
  exact ⟨ret_int HE.out.symm, Hw0.out.trans (hb.mono Hw0.out.size)⟩
theorem exists_calls (v : Value) (X : List BuX) (x : BuX) (w : World) (h : RecAt buCells 12 w v X) :
 Calls Tryz.prog 49 #[v, buVal x] w fun e w' => e = .returned (.bool (existsB (plB X) x.b)) ∧ Below w.heap.size w w' := by
 obtain ⟨W, hW⟩ : ∃ W, W = w.alloc (Obj.cells #[.int .i64 x.b.ac, .int .i64 x.b.sb, .string x.b.pr, .int .i64 x.b.ix, .int .i64 x.b.kd, .slice x.za x.zn x.zc, .int .i64 x.b.f, .int .i64 x.b.t, .int .i64 x.b.un, .int .i64 x.b.lf, .int .i64 x.b.pt, .bool x.b.sh] 60) := ⟨_, rfl⟩
 have hw0 : Below w.heap.size w W := by rw [hW]; exact (Below.refl _ _).alloc (Nat.le_refl _) _
 have r0 : W.heap[w.heap.size]? = some (Obj.cells #[.int .i64 x.b.ac, .int .i64 x.b.sb, .string x.b.pr, .int .i64 x.b.ix, .int .i64 x.b.kd, .slice x.za x.zn x.zc, .int .i64 x.b.f, .int .i64 x.b.t, .int .i64 x.b.un, .int .i64 x.b.lf, .int .i64 x.b.pt, .bool x.b.sh] 60) := by rw [hW]; exact heap_alloc_new _ _
 have HF := hZ9 (find33_calls v X x.b.sb x.b.pr x.b.ix x.b.f 0 W (h.below hw0))
 have HE := hZ9 (existsB_ix (plB X) x.b)
 have Hw0 := hZ9 hw0
 have HW := hZ9 hW
 obtain ⟨av, cap, rfl, hlc, hcm⟩ := rec_shape h
 generalize ixOf (idIs x.b.sb x.b.pr x.b.ix x.b.f) (plB X) = i at *
 have tQ := fun j => cell_of_row W _ j _ _ _ r0
 have x1 := tQ 1
 have x2 := tQ 2
 have x3 := tQ 3
 have x6 := tQ 6
 clear tQ
 unfold buVal
 clear hW hw0 h hlc hcm r0
 go_enter Tryz.func49, Tryz.ntmps49
 go_upto_region 1 with (fail)
 rw [← HW.out]
 go_wp2_with fail
 refine HF.out.mono ?_
 rintro e w2 ⟨rfl, hb2⟩
 have Hb2 := hZ9 (Hw0.out.trans (hb2.mono Hw0.out.size))
 clear hb2
 by_cases hi : 0 ≤ i
 · have HE2 := hZ9 (show existsB (plB X) x.b = true by rw [← HE.out]; exact decide_eq_true hi)
   go_wp2
   go_ret
   exact ⟨ret_bool (by rw [HE2.out]; try simp [hi]), Hb2.out⟩
 have HE2 := hZ9 (show existsB (plB X) x.b = false by rw [← HE.out]; exact decide_eq_false hi)
 go_wp2
 go_ret
 exact ⟨ret_bool (by rw [HE2.out]; try simp [hi]), Hb2.out⟩
def WiTo (R : List BuX) (w : World) (e : Ending) (w' : World) : Prop := ∃ (a : Option Addr) (c : Nat), e = .returned (.slice a R.length c) ∧ w'.ownsRow w.heap.size 60 12 (.slice a R.length c) R.length (R.flatMap buCells) ∧ Below w.heap.size w w'
theorem WiTo.of {R Q : List BuX} {w w' : World} {a : Option Addr} {c : Nat} (h : w'.ownsRow w.heap.size 60 12 (.slice a R.length c) R.length (R.flatMap buCells)) (hR : R = Q) (hb : Below w.heap.size w w') : WiTo Q w (.returned (.slice a R.length c)) w' := by
 subst hR; exact ⟨a, c, rfl, h, hb⟩
def CrVal (base : Nat) (Q : List Bu) (w : World) (y : Value) : Prop := ∃ (a : Option Addr) (c : Nat) (R : List BuX), y = .slice a R.length c ∧ w.ownsRow base 60 12 (.slice a R.length c) R.length (R.flatMap buCells) ∧ plB R = Q ∧ ∀ x ∈ R, BuO base w x
theorem CrVal.below {base : Nat} {Q : List Bu} {w w' : World} {y : Value} (h : CrVal base Q w y) (hb : Below w.heap.size w w') : CrVal base Q w' y := by
 obtain ⟨a, c, R, h1, h2, h3, h4⟩ := h
 exact ⟨a, c, R, h1, ownsRow_below h2 hb, h3, fun x hx => (h4 x hx).below hb⟩
def BxVal (base : Nat) (b : Bu) (w : World) (y : Value) : Prop := ∃ z : BuX, y = buVal z ∧ z.b = b ∧ BuO base w z
theorem BxVal.below {base : Nat} {b : Bu} {w w' : World} {y : Value} (h : BxVal base b w y) (hb : Below w.heap.size w w') : BxVal base b w' y := by
 obtain ⟨z, h1, h2, h3⟩ := h
 exact ⟨z, h1, h2, h3.below hb⟩
theorem find_plB (p : Bu → Bool) (X : List BuX) : (plB X).find? p = (X.find? (fun x : BuX => p x.b)).map (·.b) := by
 unfold plB
 rw [List.find?_map]
 rfl
theorem ord_nil : OrdB [] := ⟨List.Pairwise.nil, List.Pairwise.nil⟩
theorem ord_take1 {L : List Bu} (h : 0 < L.length) : OrdB (L.take 1) := by
 rw [List.take_succ_eq_append_getElem h, List.take_zero, List.nil_append]
 exact ⟨List.pairwise_singleton _ _, List.pairwise_singleton _ _⟩
theorem ord_snoc {L : List Bu} {k : Nat} (hk : k < L.length) (hk0 : 0 < k) (h : OrdB (L.take k)) (he : earlB (L[k - 1]) L[k] = true) (hn : existsB (L.take k) L[k] = false) : OrdB (L.take (k + 1)) := by
 have hone : ∀ x ∈ L.take k, sameId x L[k] = false := fun x hx => by
  have := List.any_eq_false.1 hn x hx
  simpa using this
 rw [List.take_succ_eq_append_getElem hk]
 refine ⟨?_, ?_⟩
 · have hp : (L.take k ++ [L[k]]).Pairwise Earl := List.pairwise_append.2 ⟨h.earl, List.pairwise_singleton _ _, fun a ha c hc => ?_⟩
   · exact hp.imp fun h => earlB_iff.2 h
   obtain rfl := List.mem_singleton.1 hc
   obtain ⟨j, hj, rfl⟩ := List.mem_take_iff_getElem.1 ha
   have hlast : Earl (L[k - 1]) L[k] := earlB_iff.1 he
   by_cases hjk : j = k - 1
   · subst hjk; exact hlast
   have h1 := List.pairwise_iff_getElem.1 h.earl j (k - 1) (by rw [List.length_take]; omega) (by rw [List.length_take]; omega) (by omega)
   rw [List.getElem_take, List.getElem_take] at h1
   exact Earl.trans _ _ _ h1 hlast
 exact List.pairwise_append.2 ⟨h.one, List.pairwise_singleton _ _, fun a ha c hc => by
  obtain rfl := List.mem_singleton.1 hc
  exact hone a ha⟩
theorem ord_earl {L : List Bu} (h : OrdB L) {k : Nat} (hk : k < L.length) (hk0 : 0 < k) : earlB (L[k - 1]) L[k] = true := List.pairwise_iff_getElem.1 h.srt (k - 1) k (by omega) hk (by omega)
theorem ord_none {L : List Bu} (h : OrdB L) {k : Nat} (hk : k < L.length) : existsB (L.take k) L[k] = false := by
 refine List.any_eq_false.2 fun x hx => ?_
 obtain ⟨j, hj, rfl⟩ := List.mem_take_iff_getElem.1 hx
 rw [List.pairwise_iff_getElem.1 h.one j k (by omega) hk (by omega)]
 decide
theorem ordered_calls (v : Value) (X : List BuX) (w : World) (h : RecAt buCells 12 w v X) :
 Calls Tryz.prog 19 #[v] w fun e w' => (∃ b, e = .returned (.bool b) ∧ (b = true ↔ OrdB (plB X))) ∧ Below w.heap.size w w' := by
 have HX := hZ9 h
 obtain ⟨av, cap, rfl, hlc, hcm⟩ := rec_shape h
 unfold maxLen at hcm
 clear h
 have HLen := hZ9 (plB_len X)
 have HSt := hZ9 (show OrdB ((plB X).take 1) from by
  by_cases h0 : 0 < (plB X).length
  · exact ord_take1 h0
  rw [List.length_eq_zero_iff.1 (show (plB X).length = 0 by omega)]; exact ord_nil)
 go_enter Tryz.func19, Tryz.ntmps19
 go_wp2_with fail
 go_loopw [3] (fun i wr => ∃ j : Nat, i = .int .i64 ((j : Int) + 1) ∧ OrdB ((plB X).take (j + 1)) ∧ j ≤ X.length ∧ Below w.heap.size w wr) (fun i _ => X.length + 1 - (intOf i).toNat)
 case atStart => exact ⟨0, rfl, HSt.out, Nat.zero_le _, Below.refl _ _⟩
 case round =>
  obtain ⟨wo, rfl⟩ : ∃ wo : World, wo = wr := ⟨_, rfl⟩
  obtain ⟨j, rfl, ho, hjl, hb⟩ := hrel
  have HO := hZ9 ho
  have Hb := hZ9 hb
  have hj1 : (0 : Int) ≤ (j : Int) := Int.natCast_nonneg _
  have hj4 : (0 : Int) ≤ (j : Int) + 1 := by omega
  by_cases hlt : j + 1 < X.length
  · have hj2 : (j : Int) < (X.length : Int) := by omega
    have hj3 : (j : Int) + 1 < (X.length : Int) := by omega
    have hj5 : IntKind.i64.wrap ((j : Int) + 1 - 1) = (j : Int) := by rw [Int.add_sub_cancel]; exact IntWalk.i64_in _ (by omega)
    have hj6 : ((j : Int) + 1).toNat = j + 1 := by omega
    have hj7 : IntKind.i64.wrap (j : Int) = (j : Int) := IntWalk.i64_in _ (by omega)
    have hj8 : j + 1 ≤ cap := by omega
    have hj9 : (j : Int) + 1 ≤ (cap : Int) := by omega
    have HTk0 := hZ9 (fun w1 (hb1 : Below wo.heap.size wo w1) => sliceAt_take (HX.out.below (hb.trans (hb1.mono hb.size))) (j + 1) (Nat.le_of_lt hlt))
    obtain ⟨a3, c3, e3, -, -, hx⟩ := HX.out.below hb
    cases e3
    obtain ⟨bb, o, rfl, hB, hx⟩ := hx (by rintro rfl; exact absurd hlt (by simp))
    have hy := hx (j + 1) hlt
    have hx := hx j (by omega)
    obtain ⟨qQ0, qQ1, qQ2, qQ3, qQ4, qQ5, qQ6, qQ7, qQ8, qQ9, qQ10, qQ11⟩ := bu12 hx
    have x0 := fun p : BelowOf wo => BelowOf.cell hB qQ0 p
    have x1 := fun p : BelowOf wo => BelowOf.cell hB qQ1 p
    have x2 := fun p : BelowOf wo => BelowOf.cell hB qQ2 p
    have x3 := fun p : BelowOf wo => BelowOf.cell hB qQ3 p
    have x4 := fun p : BelowOf wo => BelowOf.cell hB qQ4 p
    have x5 := fun p : BelowOf wo => BelowOf.cell hB qQ5 p
    have x6 := fun p : BelowOf wo => BelowOf.cell hB qQ6 p
    have x7 := fun p : BelowOf wo => BelowOf.cell hB qQ7 p
    have x8 := fun p : BelowOf wo => BelowOf.cell hB qQ8 p
    have x9 := fun p : BelowOf wo => BelowOf.cell hB qQ9 p
    have x10 := fun p : BelowOf wo => BelowOf.cell hB qQ10 p
    have x11 := fun p : BelowOf wo => BelowOf.cell hB qQ11 p
    clear qQ0 qQ1 qQ2 qQ3 qQ4 qQ5 qQ6 qQ7 qQ8 qQ9 qQ10 qQ11
    obtain ⟨qQ0, qQ1, qQ2, qQ3, qQ4, qQ5, qQ6, qQ7, qQ8, qQ9, qQ10, qQ11⟩ := bu12 hy
    have y0 := fun p : BelowOf wo => BelowOf.cell hB qQ0 p
    have y1 := fun p : BelowOf wo => BelowOf.cell hB qQ1 p
    have y2 := fun p : BelowOf wo => BelowOf.cell hB qQ2 p
    have y3 := fun p : BelowOf wo => BelowOf.cell hB qQ3 p
    have y4 := fun p : BelowOf wo => BelowOf.cell hB qQ4 p
    have y5 := fun p : BelowOf wo => BelowOf.cell hB qQ5 p
    have y6 := fun p : BelowOf wo => BelowOf.cell hB qQ6 p
    have y7 := fun p : BelowOf wo => BelowOf.cell hB qQ7 p
    have y8 := fun p : BelowOf wo => BelowOf.cell hB qQ8 p
    have y9 := fun p : BelowOf wo => BelowOf.cell hB qQ9 p
    have y10 := fun p : BelowOf wo => BelowOf.cell hB qQ10 p
    have y11 := fun p : BelowOf wo => BelowOf.cell hB qQ11 p
    clear qQ0 qQ1 qQ2 qQ3 qQ4 qQ5 qQ6 qQ7 qQ8 qQ9 qQ10 qQ11
    have HEarl := hZ9 (fun h : OrdB (plB X) => ord_earl h (k := j + 1) (by rw [HLen.out]; exact hlt) (by omega))
    have HNone := hZ9 (fun h : OrdB (plB X) => ord_none h (k := j + 1) (by rw [HLen.out]; exact hlt))
    have HSnoc := hZ9 (ord_snoc (L := plB X) (k := j + 1) (by rw [HLen.out]; exact hlt) (by omega) HO.out)
    have HEx := hZ9 (fun w1 (hb1 : Below wo.heap.size wo w1) (y : BuX) => exists_calls _ (X.take (j + 1)) y w1 (HTk0.out w1 hb1))
    have eX : (plB X)[j + 1 - 1]'(by rw [HLen.out]; omega) = (X[j]).b := by simp [plB]
    have eY : (plB X)[j + 1]'(by rw [HLen.out]; exact hlt) = (X[j + 1]).b := by simp [plB]
    have eT : plB (X.take (j + 1)) = (plB X).take (j + 1) := by unfold plB; rw [List.map_take]
    rw [eX, eY] at HEarl HSnoc
    rw [eY] at HNone
    rw [eT] at HEx
    clear hx hy hb ho eX eY eT HTk0
    generalize X[j + 1] = y at *
    generalize X[j] = x at *
    have HEa := hZ9 (fun w1 => rearl_calls x y w1)
    have HEx2 := hZ9 (fun w1 hb1 => HEx.out w1 hb1 y)
    unfold buVal at HEa HEx2
    cases hq : earlB x.b y.b with
    | false =>
      rw [hq] at HEa
      have HNo := hZ9 (show ¬ OrdB (plB X) from fun h => by have := HEarl.out h; rw [hq] at this; cases this)
      clear hq HEarl HSnoc HNone HEx HEx2
      go_upto_region 4 with (fail)
      refine wp_region_quiet_below (Below.refl wo.heap.size wo) (by kernel_rfl) (by kernel_rfl) ?_
      repeat (go_big_quiet_step (first | (go_at_call 48; refine calls_below_of (HEa.out _) (fun e w' h => h))))
      refine wpQuiet_nil ?_
      intro wz hw'
      have hYa : Below wo.heap.size wo wz := by obtain ⟨pq, rfl⟩ := hw'; exact pq.h
      have Hbz := hZ9 (Hb.out.trans (hYa.mono Hb.out.size))
      clear hw' hYa x0 x1 x2 x3 x4 x5 x6 x7 x8 x9 x10 x11 y0 y1 y2 y3 y4 y5 y6 y7 y8 y9 y10 y11 hj5 hj6 hj7 hj8 hj9 hB
      go_wp2
      go_ret
      exact ⟨⟨false, rfl, fun h => absurd h (by decide), fun h => absurd h HNo.out⟩, Hbz.out⟩
    | true =>
      rw [hq] at HEa
      cases hn : existsB ((plB X).take (j + 1)) y.b with
      | true =>
        rw [hn] at HEx2
        have HNo := hZ9 (show ¬ OrdB (plB X) from fun h => by have := HNone.out h; rw [hn] at this; cases this)
        clear hq hn HEarl HSnoc HNone HEx
        go_upto_region 4 with (fail)
        refine wp_region_quiet_below (Below.refl wo.heap.size wo) (by kernel_rfl) (by kernel_rfl) ?_
        repeat (go_big_quiet_step (first | (go_at_call 48; refine calls_below_of (HEa.out _) (fun e w' h => h)) | (go_at_call 49; refine calls_below_of (HEx2.out _ (by first | assumption | exact BelowOf.h (by assumption))) (fun e w' h => h))))
        refine wpQuiet_nil ?_
        intro wz hw'
        have hYa : Below wo.heap.size wo wz := by obtain ⟨pq, rfl⟩ := hw'; exact pq.h
        have Hbz := hZ9 (Hb.out.trans (hYa.mono Hb.out.size))
        clear hw' hYa x0 x1 x2 x3 x4 x5 x6 x7 x8 x9 x10 x11 y0 y1 y2 y3 y4 y5 y6 y7 y8 y9 y10 y11 hj5 hj6 hj7 hj8 hj9 hB
        go_wp2
        go_ret
        exact ⟨⟨false, rfl, fun h => absurd h (by decide), fun h => absurd h HNo.out⟩, Hbz.out⟩
      | false =>
        rw [hn] at HEx2
        have HSn := hZ9 (HSnoc.out hq hn)
        clear hq hn HEarl HSnoc HNone HEx
        go_upto_region 4 with (fail)
        refine wp_region_quiet_below (Below.refl wo.heap.size wo) (by kernel_rfl) (by kernel_rfl) ?_
        repeat (go_big_quiet_step (first | (go_at_call 48; refine calls_below_of (HEa.out _) (fun e w' h => h)) | (go_at_call 49; refine calls_below_of (HEx2.out _ (by first | assumption | exact BelowOf.h (by assumption))) (fun e w' h => h))))
        refine wpQuiet_nil ?_
        intro wz hw'
        have hYa : Below wo.heap.size wo wz := by obtain ⟨pq, rfl⟩ := hw'; exact pq.h
        have Hbz := hZ9 (Hb.out.trans (hYa.mono Hb.out.size))
        clear hw' hYa x0 x1 x2 x3 x4 x5 x6 x7 x8 x9 x10 x11 y0 y1 y2 y3 y4 y5 y6 y7 y8 y9 y10 y11 hj5 hj6 hj7 hj8 hj9 hB
        go_wp2
        exact ⟨⟨j + 1, by go_num, HSn.out, by omega, Hbz.out⟩, by simp [intOf]; omega⟩
  have HYes := hZ9 (show OrdB (plB X) by rw [List.take_of_length_le (by rw [HLen.out]; omega)] at ho; exact ho)
  clear ho hb
  go_wp2
  go_ret
  exact ⟨⟨true, rfl, fun _ => HYes.out, fun _ => rfl⟩, Hb.out⟩
structure HoX where
 h : Had
 pa : Option Addr
 pn : Nat
 pc : Nat
def hoCells (ac : Int) (x : HoX) : List Value := [.int .i64 ac, .int .i64 x.h.1, .string x.h.2, .slice x.pa x.pn x.pc]
theorem ho_one (ac : Int) (x : HoX) : ∀ u ∈ hoCells ac x, u.oneCell' = true := by
 intro u hu
 unfold hoCells at hu
 simp only [List.mem_cons, List.not_mem_nil, or_false] at hu
 rcases hu with rfl | rfl | rfl | rfl <;> rfl
def HoRd (l : List Ev) (w : World) (x : HoX) : Prop := PersAt w (.slice x.pa x.pn x.pc) (actL x.h.1 x.h.2 l) ∧ x.h.2.size ≤ maxLen
theorem HoRd.below {l : List Ev} {w w' : World} {x : HoX} (h : HoRd l w x) (hb : Below w.heap.size w w') : HoRd l w' x := ⟨h.1.below hb, h.2⟩
def HoO (l : List Ev) (base : Nat) (w : World) (x : HoX) : Prop := w.ownsRow base 25 2 (.slice x.pa x.pn x.pc) (actL x.h.1 x.h.2 l).length ((actL x.h.1 x.h.2 l).flatMap perCells) ∧ x.h.2.size ≤ maxLen
theorem HoO.below {l : List Ev} {base : Nat} {w w' : World} {x : HoX} (h : HoO l base w x) (hb : Below w.heap.size w w') : HoO l base w' x := ⟨ownsRow_below h.1 hb, h.2⟩
theorem HoO.rd {l : List Ev} {base : Nat} {w : World} {x : HoX} (h : HoO l base w x) : HoRd l w x := ⟨PersAt.own h.1, h.2⟩
theorem HoO.growT {l : List Ev} {base base' : Nat} {w w' : World} {x : HoX} (h : HoO l base w x) {v : Value} {e : TypeId} {sz n : Nat} {xs : List Value} (ho : w.ownsRow base' e sz v n xs) (he : e ≠ 25) (hg : w.grownBy w' v.ownBlock) : HoO l base w' x :=
 ⟨own_grow h.1 hg (own_other2 h.1 ho he), h.2⟩
def HosTo (l : List Ev) (ac : Int) (w : World) (e : Ending) (w' : World) : Prop := ∃ (a : Option Addr) (c : Nat) (X : List HoX), e = .returned (.slice a X.length c) ∧ RecAt (hoCells ac) 4 w' (.slice a X.length c) X ∧ HadOk l ac (X.map (·.h)) ∧ (∀ x ∈ X, HoRd l w' x) ∧ X.length ≤ 10000 ∧ Below w.heap.size w w'
def HoVal1 (ac : Int) (l : List Ev) (h : Had) (B : Nat) (w : World) (y : Value) : Prop := ∃ x : HoX, y = .agg #[.int .i64 ac, .int .i64 h.1, .string h.2, .slice x.pa x.pn x.pc] ∧ x.h = h ∧ HoO l B w x
theorem HoVal1.below {ac : Int} {l : List Ev} {h : Had} {B : Nat} {w w' : World} {y : Value} (q : HoVal1 ac l h B w y) (hb : Below w.heap.size w w') : HoVal1 ac l h B w' y := by
 obtain ⟨x, h1, h2, h3⟩ := q
 exact ⟨x, h1, h2, h3.below hb⟩
def HoRow1 (ac : Int) (l : List Ev) (h : Had) (B : Nat) (w : World) (y : Value) : Prop := ∃ (g : Nat) (x : HoX), y = .slice (some ⟨g, 0, none⟩) 1 1 ∧ w.heap[g]? = some (Obj.cells #[.int .i64 ac, .int .i64 h.1, .string h.2, .slice x.pa x.pn x.pc] 131) ∧ x.h = h ∧ HoO l B w x
theorem HoRow1.below {ac : Int} {l : List Ev} {h : Had} {B : Nat} {w w' : World} {y : Value} (q : HoRow1 ac l h B w y) (hb : Below w.heap.size w w') : HoRow1 ac l h B w' y := by
 obtain ⟨g, x, h1, h4, h2, h3⟩ := q
 exact ⟨g, x, h1, (hb.block _ (ltB9 h4)).trans h4, h2, h3.below hb⟩
def fewB (l : List Ev) (P : List Pd) (b w c : Nat) (t : Int) : Bool :=
 decide (l.length ≤ 40) && decide (P.length ≤ 8) && decide (b ≤ 60) && decide (w ≤ 40) && decide (c ≤ 40) && (P.all fun p => decide (p.bs.length ≤ 4)) && (decide (l.length = 0) || decide (t < 69120000) || decide (t - 69120000 < (l.getD 0 default).tm))
theorem fewB_is {l : List Ev} {P : List Pd} {b w c : Nat} {t : Int} (h : fewB l P b w c t = true) : l.length ≤ 40 ∧ P.length ≤ 8 ∧ b ≤ 60 ∧ w ≤ 40 ∧ c ≤ 40 ∧ (∀ p ∈ P, p.bs.length ≤ 4) ∧ (l.length = 0 ∨ t < 69120000 ∨ t - 69120000 < (l.getD 0 default).tm) := by
 unfold fewB at h
 simp only [Bool.and_eq_true, Bool.or_eq_true, decide_eq_true_eq, List.all_eq_true] at h
 obtain ⟨⟨⟨⟨⟨⟨h1, h2⟩, h3⟩, h4⟩, h5⟩, h6⟩, h7⟩ := h
 exact ⟨h1, h2, h3, h4, h5, h6, or_assoc.1 h7⟩
end Go.Proofs.YtngippiilgdnoaaGreat
