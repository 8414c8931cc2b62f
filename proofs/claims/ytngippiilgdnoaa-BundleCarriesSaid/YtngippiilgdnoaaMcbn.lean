/-
  The walk of the program's cycles, and of the function that it calls for each period.
-/
import Derived.Test.YtngippiilgdnoaaMcbf
import Derived.Test.YtngippiilgdnoaaMcbm
import Derived.Test.YtngippiilgdnoaaMcbh
import Derived.Test.YtngippiilgdnoaaMcbi
set_option maxRecDepth 100000
set_option maxHeartbeats 25600000
namespace Go.Proofs.Ytngippiilgdnoaa
open Go.RowKit
theorem pat_calls (v : Value) (l : List Pd) (s : ByteArray) (t : Int) (w : World) (h : PdsAt w v l) (hf : FewP l) :
 Calls Try.prog 26 #[v, .string s, .int .i64 t] w fun e w' => RatTo w (atL l s t) e w' := by
 cases ha : atL l s t with
 | none => exact at_no v l s t w h hf ha
 | some p => exact at_yes v l s t p w h hf ha
theorem pers_shape {w : World} {v : Value} {l : List (Int × Int)} (h : PersAt w v l) : ∃ a c, v = .slice a l.length c ∧ l.length ≤ c ∧ c ≤ maxLen := by
 obtain ⟨a, c, rfl, h1, h2, -⟩ := h
 exact ⟨a, c, rfl, h1, h2.1⟩
def buOf (ac : Int) (h : Had) (q : Int × Int) (i : Int) (b : Bd) : Bu := ⟨ac, h.1, h.2, i, b.kd, b.zs, q.1, q.2, b.un, b.un, b.pr, b.sh⟩
def grantsL (ac : Int) (h : Had) (q : Int × Int) (bs : List Bd) : List (Bu × Int) := bs.mapIdx fun i b => (buOf ac h q (i : Int) b, b.ro)
theorem grantsL_take (ac : Int) (h : Had) (q : Int × Int) (bs : List Bd) (k : Nat) (hk : k < bs.length) : grantsL ac h q (bs.take (k + 1)) = grantsL ac h q (bs.take k) ++ [(buOf ac h q (k : Int) bs[k], (bs[k]).ro)] := by
 unfold grantsL
 rw [List.take_succ_eq_append_getElem hk, List.mapIdx_concat, List.length_take, Nat.min_eq_left (Nat.le_of_lt hk)]
theorem grantsL_len (ac : Int) (h : Had) (q : Int × Int) (bs : List Bd) : (grantsL ac h q bs).length = bs.length := by unfold grantsL; rw [List.length_mapIdx]
def firstP (A : List (Int × Int)) (c : Int × Int) : Option (Int × Int) := match A.find? (fun p => meetB p.1 p.2 c.1 c.2) with
 | some p => some (max p.1 c.1, min p.2 c.2)
 | none => none
def bsOf : Option Pd → List Bd
 | none => []
 | some x => x.bs
def grantB (P : List Pd) (ac : Int) (h : Had) (A : List (Int × Int)) (c : Int × Int) : List (Bu × Int) := match firstP A c with
 | none => []
 | some q => grantsL ac h q (bsOf (atL P h.2 q.1))
theorem find_hit {α : Type} {p : α → Bool} {l : List α} {k : Nat} (hk : k < l.length) (h : (l.take k).any p = false) (hp : p l[k] = true) : l.find? p = some l[k] := by
 have e : l = l.take k ++ (l[k] :: l.drop (k + 1)) := by rw [← List.drop_eq_getElem_cons hk, List.take_append_drop]
 have h1 : (l.take k).find? p = none := List.find?_eq_none.2 (fun x hx => by
  have := List.any_eq_false.1 h x hx
  simpa using this)
 have h2 : l.find? p = (l.take k ++ (l[k] :: l.drop (k + 1))).find? p := congrArg _ e
 rw [h2, List.find?_append, h1, Option.none_or, List.find?_cons_of_pos hp]
theorem find_end {α : Type} {p : α → Bool} {l : List α} {k : Nat} (hk : l.length ≤ k) (h : (l.take k).any p = false) : l.find? p = none := by
 rw [List.take_of_length_le hk] at h
 exact List.find?_eq_none.2 (fun x hx => by
  have := List.any_eq_false.1 h x hx
  simpa using this)
theorem firstP_hit {A : List (Int × Int)} {c : Int × Int} {k : Nat} (hk : k < A.length) (h : (A.take k).any (fun p => meetB p.1 p.2 c.1 c.2) = false) (hp : meetB (A[k]).1 (A[k]).2 c.1 c.2 = true) : firstP A c = some (max (A[k]).1 c.1, min (A[k]).2 c.2) := by
 unfold firstP
 rw [find_hit (p := fun p : Int × Int => meetB p.1 p.2 c.1 c.2) hk h hp]
theorem firstP_end {A : List (Int × Int)} {c : Int × Int} {k : Nat} (hk : A.length ≤ k) (h : (A.take k).any (fun p => meetB p.1 p.2 c.1 c.2) = false) : firstP A c = none := by
 unfold firstP
 rw [find_end (p := fun p : Int × Int => meetB p.1 p.2 c.1 c.2) hk h]
def grCells (g : BuX × Int) : List Value := [.int .i64 g.1.b.ac, .int .i64 g.1.b.sb, .string g.1.b.pr, .int .i64 g.1.b.ix, .int .i64 g.1.b.kd, .slice g.1.za g.1.zn g.1.zc, .int .i64 g.1.b.f, .int .i64 g.1.b.t, .int .i64 g.1.b.un, .int .i64 g.1.b.lf, .int .i64 g.1.b.pt, .bool g.1.b.sh, .int .i64 g.2]
theorem gr_one (a : BuX × Int) : ∀ u ∈ grCells a, u.oneCell' = true := by
 intro u hu
 unfold grCells at hu
 simp only [List.mem_cons, List.not_mem_nil, or_false] at hu
 rcases hu with rfl | rfl | rfl | rfl | rfl | rfl | rfl | rfl | rfl | rfl | rfl | rfl | rfl <;> rfl
theorem Try.grInfo : (Try.prog.info? 67).map (fun i => (i.zero, i.size, i.bytes)) = some (some (.agg #[.int .i64 0, .int .i64 0, .string ⟨#[]⟩, .int .i64 0, .int .i64 0, .slice none 0 0, .int .i64 0, .int .i64 0, .int .i64 0, .int .i64 0, .int .i64 0, .bool false, .int .i64 0]), 13, 128) := by kernel_rfl
def plG (X : List (BuX × Int)) : List (Bu × Int) := X.map fun g => (g.1.b, g.2)
def GrTo (G : List (Bu × Int)) (w : World) (e : Ending) (w' : World) : Prop := ∃ (a : Option Addr) (c : Nat) (X : List (BuX × Int)), e = .returned (.slice a X.length c) ∧ w'.ownsRow w.heap.size 67 13 (.slice a X.length c) X.length (X.flatMap grCells) ∧ plG X = G ∧ (∀ x ∈ X, BuRd w' x.1) ∧ Below w.heap.size w w'
theorem append_gr {w : World} {ops : Array Oper} {rest : List Oper} {o : Oper} {a : Act} {Q : Exit → Act → World → Prop} (hgd : o.guard = none) (s x : Operand)
 (ho : o.op = .call { callee := .builtin .append, args := #[s, x], argTypes := #[64, 64] })
 (base : Nat) (hbase : base ≤ w.heap.size) (v vx : Value) (L X : List (BuX × Int)) (hs : a.eval s = v) (hx : a.eval x = vx) (hown : w.ownsRow base 67 13 v L.length (L.flatMap grCells)) (hX : RecAt grCells 13 w vx X) (hlen : L.length + X.length ≤ 1000000)
 (h : ∀ R : List (BuX × Int), RowKit.Hid (R = L ++ X) → ∀ v' w', w'.ownsRow base 67 13 v' R.length (R.flatMap grCells) → w.grownBy w' v.ownBlock → wpList Try.prog ops Q rest (a.put o.dst v') w') : wpList Try.prog ops Q (o :: rest) a w :=
 append_rec2 (c := grCells) (sz := 13) (fun _ => rfl) gr_one 67 64 _ 128 Try.underlying64 Try.grInfo rfl (by decide) hgd s x ho base hbase v vx L X hs hx hown hX (by unfold maxLen; omega) (by omega) h
theorem World.le_alloc (w : World) (o : Obj) : w.heap.size ≤ (w.alloc o).heap.size := by simp
theorem bds_slice {w : World} {v : Value} {l : List Bd} (h : BdsAt w v l) : ∃ a c, v = .slice a l.length c ∧ l.length ≤ c ∧ c ≤ maxLen := by
 obtain ⟨a, c, rfl, h1, h2, -⟩ := h
 exact ⟨a, c, rfl, h1, h2.1⟩
theorem bds_nil (w : World) : BdsAt w (.slice none 0 0) [] := ⟨none, 0, rfl, Nat.le_refl _, ⟨by unfold maxLen; omega, fun _ => rfl⟩, fun h => absurd rfl h⟩
theorem atBs {w w' : World} {o : Option Pd} {e : Ending} (h : RatTo w o e w') : ∃ (nm ct : ByteArray) (fm fe : Int) (pro : Bool) (ba : Option Addr) (bc : Nat), e = .returned (.tuple #[.agg #[.string nm, .int .i64 fm, .int .i64 fe, .string ct, .bool pro, .slice ba (bsOf o).length bc], .bool o.isSome]) ∧ BdsAt w' (.slice ba (bsOf o).length bc) (bsOf o) ∧ (bsOf o).length ≤ bc ∧ bc ≤ maxLen ∧ Below w.heap.size w w' := by
 cases o with
 | none => exact ⟨_, _, _, _, _, none, 0, h.1, bds_nil _, Nat.le_refl _, by unfold maxLen; omega, h.2⟩
 | some p =>
  obtain ⟨bv, rfl, hb, hbl⟩ := h
  obtain ⟨a, c, rfl, h1, h2⟩ := bds_slice hb
  exact ⟨_, _, _, _, _, a, c, rfl, hb, h1, h2, hbl⟩
theorem bd_zones {w : World} {b o : Nat} {x : Bd} (h : BdR w b o x) : ∃ (za : Option Addr) (zc : Nat), w.cell? ⟨b, o, none⟩ = some (.int .i64 x.kd) ∧ w.cell? ⟨b, o + 1, none⟩ = some (.slice za x.zs.length zc) ∧ StrsAt w (.slice za x.zs.length zc) x.zs ∧ w.cell? ⟨b, o + 2, none⟩ = some (.int .i64 x.un) ∧ w.cell? ⟨b, o + 3, none⟩ = some (.int .i64 x.ro) ∧ w.cell? ⟨b, o + 4, none⟩ = some (.int .i64 x.pr) ∧ w.cell? ⟨b, o + 5, none⟩ = some (.bool x.sh) := by
 obtain ⟨h0, ⟨zv, h1, hz⟩, h2, h3, h4, h5⟩ := h
 have hz2 := hz
 obtain ⟨za, zc, rfl, -, -, -⟩ := hz2
 exact ⟨za, zc, h0, h1, hz, h2, h3, h4, h5⟩
theorem grant_calls (ac sb : Int) (pr : ByteArray) (pa : Option Addr) (pn pc : Nat) (vp : Value) (P : List Pd) (A : List (Int × Int)) (c : Int × Int) (w : World) (hA : PersAt w (.slice pa pn pc) A) (hp : PdsAt w vp P) (hf : FewP P) (hs : pr.size ≤ maxLen) :
 Calls Try.prog 18 #[.agg #[.int .i64 ac, .int .i64 sb, .string pr, .slice pa pn pc], vp, .agg #[.int .i64 c.1, .int .i64 c.2]] w (GrTo (grantB P ac (sb, pr) A c) w) := by
 obtain ⟨W, hW, r0, r1, hw0, hz0⟩ := two_rows2 w (Obj.cells #[.int .i64 ac, .int .i64 sb, .string pr, .slice pa pn pc] 63) (Obj.cells #[.int .i64 c.1, .int .i64 c.2] 24)
 have HA := hZ9 (hA.below hw0)
 have HP := hZ9 (hp.below hw0)
 have Hf := hZ9 hf
 have Hs := hZ9 hs
 have Hzs := hZ9 (show ∀ (s : ByteArray) (t : Int), ∀ b ∈ bsOf (atL P s t), b.zs.length ≤ 100 from fun s t b hb => by
  cases ha : atL P s t with
  | none => rw [ha] at hb; cases hb
  | some x =>
   rw [ha] at hb
   have hx : x ∈ P := by
    unfold atL at ha
    exact (List.mem_filter.1 (List.mem_of_getLast? ha)).1
   exact (hf.2 x hx).2 b hb)
 have Hbl := hZ9 (show ∀ (s : ByteArray) (t : Int), (bsOf (atL P s t)).length ≤ 100 from fun s t => by
  cases ha : atL P s t with
  | none => exact Nat.zero_le _
  | some x =>
   have hx : x ∈ P := by
    unfold atL at ha
    exact (List.mem_filter.1 (List.mem_of_getLast? ha)).1
   exact (hf.2 x hx).1)
 have Hnone := hZ9 (show firstP A c = none → grantB P ac (sb, pr) A c = [] from fun h => by unfold grantB; rw [h])
 have Hsome := hZ9 (show ∀ q, firstP A c = some q → grantB P ac (sb, pr) A c = grantsL ac (sb, pr) q (bsOf (atL P pr q.1)) from fun q h => by unfold grantB; rw [h])
 have HW := hZ9 hW
 have Hw0 := hZ9 hw0
 have R0 := hZ9 r0
 have R1 := hZ9 r1
 obtain ⟨av, cap, e, hlc, hm, -⟩ := hA
 cases e
 have hm := hm.1
 unfold maxLen at hm
 obtain ⟨pav, pcap, rfl, -, -, -⟩ := hp
 have a3 := cell_of_row W _ 3 _ _ _ r0
 clear hW r0 r1 hw0 hf hs
 generalize grantB P ac (sb, pr) A c = GG at *
 go_enter Try.func18, Try.ntmps18
 go_upto_region 1 with (fail)
 rw [← HW.out]
 go_wp2_with fail
 go_loopw [20] (fun i wr => ∃ k : Nat, k ≤ A.length ∧ i = .int .i64 k ∧ (A.take k).any (fun p => meetB p.1 p.2 c.1 c.2) = false ∧ Below W.heap.size W wr) (fun i _ => A.length - (intOf i).toNat)
 case atStart => exact ⟨0, Nat.zero_le _, rfl, rfl, Below.refl _ _⟩
 case round =>
  obtain ⟨wo, rfl⟩ : ∃ wo : World, wo = wr := ⟨_, rfl⟩
  obtain ⟨k, hk, rfl, hn, hb⟩ := hrel
  have Hn := hZ9 hn
  have Hb := hZ9 hb
  by_cases hlt : k < A.length
  · have hk1 : (k : Int) < (A.length : Int) := by omega
    have hk0 : (0 : Int) ≤ (k : Int) := Int.natCast_nonneg _
    obtain ⟨a3, c3, e3, -, -, hx⟩ := HA.out.below hb
    cases e3
    obtain ⟨bb, o, rfl, hB, hx⟩ := hx (by rintro rfl; cases hlt)
    obtain ⟨x0, x1⟩ := hx k hlt
    have HH := hZ9 (fun h2 => firstP_hit (c := c) hlt Hn.out h2)
    have HT := hZ9 (fun h2 => any_take (p := fun p : Int × Int => meetB p.1 p.2 c.1 c.2) hlt Hn.out h2)
    clear hx hn
    generalize A[k] = p at *
    obtain ⟨Y, hY⟩ : ∃ Y, Y = wo.alloc (Obj.cells #[.int .i64 p.1, .int .i64 p.2] 24) := ⟨_, rfl⟩
    have hbY : Below wo.heap.size wo Y := by rw [hY]; exact (Below.refl _ _).alloc (Nat.le_refl _) _
    have YN := hZ9 (show Y.heap[wo.heap.size]? = some (Obj.cells #[.int .i64 p.1, .int .i64 p.2] 24) by rw [hY]; exact heap_alloc_new _ _)
    have hbW := hb.trans (hbY.mono hb.size)
    have HbW := hZ9 hbW
    have Y1 := hZ9 ((hbW.block _ hz0).trans R1.out)
    have HY := hZ9 hY
    clear hY hbY hb
    have y0 := cell_of_row Y _ 0 _ _ _ YN.out
    have y1 := cell_of_row Y _ 1 _ _ _ YN.out
    have z0 := cell_of_row Y _ 0 _ _ _ Y1.out
    have z1 := cell_of_row Y _ 1 _ _ _ Y1.out
    have HI := hZ9 (intersect_calls p.1 p.2 c.1 c.2 Y)
    cases hme : meetB p.1 p.2 c.1 c.2 with
    | false =>
     have HE := hZ9 (HT.out hme)
     unfold meetV at HI
     rw [hme, if_neg (by decide)] at HI
     clear hme
     go_upto_region 4 with (fail)
     rw [← HY.out]
     go_wp2_with fail
     refine HI.out.mono ?_
     rintro e w3 ⟨rfl, hb3⟩
     have Hb3 := hZ9 (HbW.out.trans ((hb3.alloc hb3.size (Obj.cells #[.int .i64 0, .int .i64 0] 24)).mono HbW.out.size))
     clear hb3 y0 y1 z0 z1
     go_wp2
     exact ⟨⟨k + 1, by omega, by go_num, HE.out, Hb3.out⟩, by simp [intOf]; omega⟩
    | true =>
     have HF := hZ9 (HH.out hme)
     unfold meetV at HI
     rw [hme, if_pos rfl] at HI
     clear hme
     go_upto_region 4 with (fail)
     rw [← HY.out]
     go_wp2_with fail
     refine HI.out.mono ?_
     rintro e w3 ⟨rfl, hb3⟩
     obtain ⟨q, hq⟩ : ∃ q : Int × Int, q = (max p.1 c.1, min p.2 c.2) := ⟨_, rfl⟩
     have hq1 : max p.1 c.1 = q.1 := by rw [hq]
     have hq2 : min p.2 c.2 = q.2 := by rw [hq]
     have HG := hZ9 (Hsome.out q (by rw [hq]; exact HF.out))
     rw [hq1, hq2]
     clear hq hq1 hq2 HF HI HH HT y0 y1 z0 z1 x0 x1
     obtain ⟨V, hV⟩ : ∃ V, V = w3.alloc (Obj.cells #[.int .i64 q.1, .int .i64 q.2] 24) := ⟨_, rfl⟩
     have hbV : Below w3.heap.size w3 V := by rw [hV]; exact (Below.refl _ _).alloc (Nat.le_refl _) _
     have VN := hZ9 (show V.heap[w3.heap.size]? = some (Obj.cells #[.int .i64 q.1, .int .i64 q.2] 24) by rw [hV]; exact heap_alloc_new _ _)
     have hbV2 := HbW.out.trans ((hb3.trans (hbV.mono hb3.size)).mono HbW.out.size)
     have HbV := hZ9 hbV2
     have V0 := hZ9 ((hbV2.block _ (by omega)).trans R0.out)
     have HV := hZ9 hV
     clear hV hbV hbV2 hb3
     have v0 := cell_of_row V _ 0 _ _ _ VN.out
     have v2 := cell_of_row V _ 2 _ _ _ V0.out
     have HAt := hZ9 (pat_calls _ P pr q.1 V (HP.out.below HbV.out) Hf.out)
     have HzB := hZ9 (Hzs.out pr q.1)
     have HlB := hZ9 (Hbl.out pr q.1)
     have hVn : w3.heap.size < V.heap.size := (ltB9 VN.out)
     go_upto_region 6 with (fail)
     rw [← HV.out]
     go_wp2_with fail
     refine HAt.out.mono ?_
     intro e w4 hAt
     obtain ⟨nm, ct, fm, fe, pro, ba, bc, rfl, hbs, hbc1, hbc2, hb4⟩ := atBs hAt
     generalize bsOf (atL P pr q.1) = bs at *
     generalize (atL P pr q.1).isSome = som at *
     have hbl := HlB.out
     unfold maxLen at hbc2
     obtain ⟨T, hT⟩ : ∃ T, T = w4.alloc (Obj.cells #[.string nm, .int .i64 fm, .int .i64 fe, .string ct, .bool pro, .slice ba bs.length bc] 49) := ⟨_, rfl⟩
     have hbT : Below w4.heap.size w4 T := by rw [hT]; exact (Below.refl _ _).alloc (Nat.le_refl _) _
     have TN := hZ9 (show T.heap[w4.heap.size]? = some (Obj.cells #[.string nm, .int .i64 fm, .int .i64 fe, .string ct, .bool pro, .slice ba bs.length bc] 49) by rw [hT]; exact heap_alloc_new _ _)
     have hbT2 := hb4.trans (hbT.mono hb4.size)
     have HBs := hZ9 (hbs.below hbT)
     have T0 := hZ9 ((hbT2.block _ (by have := HbV.out.size; omega)).trans V0.out)
     have TV := hZ9 ((hbT2.block _ hVn).trans VN.out)
     have HbT := hZ9 (HbV.out.trans (hbT2.mono HbV.out.size))
     have HT := hZ9 hT
     have t5 := cell_of_row T _ 5 _ _ _ TN.out
     clear hT hbT hbT2 hb4 hbs hAt v0 v2
     go_upto_region 8 with (fail)
     rw [← HT.out]
     go_wp2_with fail
     clear t5
     go_loopw [13, 44] (fun vo i wr => ∃ (j : Nat) (O : List (BuX × Int)), j ≤ bs.length ∧ i = .int .i64 j ∧ RowKit.Hid (plG O = grantsL ac (sb, pr) q (bs.take j)) ∧ O.length = j ∧ wr.ownsRow T.heap.size 67 13 vo O.length (O.flatMap grCells) ∧ (∀ x ∈ O, BuRd T x.1) ∧ Below T.heap.size T wr) (fun _ i _ => bs.length - (intOf i).toNat)
     case atStart => exact ⟨0, [], Nat.zero_le _, rfl, hZ9 rfl, rfl, World.ownsRow_nil _ _ _ _, fun x hx => (by cases hx), Below.refl _ _⟩
     case round =>
      obtain ⟨wo2, rfl⟩ : ∃ wo2 : World, wo2 = wr := ⟨_, rfl⟩
      obtain ⟨j, O, hj, rfl, HO, hOl, hown, hrd, hb⟩ := hrel
      obtain ⟨a, cp, rfl, hc1, hc2⟩ := own_shape hown
      unfold maxLen at hc2
      have Hown := hZ9 hown
      have Hrd := hZ9 hrd
      have Hbo := hZ9 hb
      have hOl1 : O.length ≤ 100 := by omega
      have HOl := hZ9 hOl
      clear hOl hrd
      by_cases hjt : j < bs.length
      · have hj1 : (j : Int) < (bs.length : Int) := by omega
        have hj0 : (0 : Int) ≤ (j : Int) := Int.natCast_nonneg _
        have HG1 := hZ9 (grantsL_take ac (sb, pr) q bs j hjt)
        have HZl := hZ9 (HzB.out _ (List.getElem_mem hjt))
        obtain ⟨a3, c3, e3, -, -, hx⟩ := HBs.out
        cases e3
        obtain ⟨bb2, o2, rfl, hB2, hx⟩ := hx (by rintro rfl; cases hjt)
        have hbd := hx j hjt
        clear hx
        generalize bs[j] = bd at *
        obtain ⟨za, zc, z0, z1, hzs, z2, z3, z4, z5⟩ := bd_zones hbd
        have Hz := hZ9 hzs
        have x0 := (hb.cell (p := ⟨bb2, _, none⟩) hB2).trans z0
        have x1 := (hb.cell (p := ⟨bb2, _, none⟩) hB2).trans z1
        have x2 := (hb.cell (p := ⟨bb2, _, none⟩) hB2).trans z2
        have x3 := (hb.cell (p := ⟨bb2, _, none⟩) hB2).trans z3
        have x4 := (hb.cell (p := ⟨bb2, _, none⟩) hB2).trans z4
        have x5 := (hb.cell (p := ⟨bb2, _, none⟩) hB2).trans z5
        have hB2 : bb2 < wo2.heap.size := Nat.lt_of_lt_of_le hB2 hb.size
        clear z0 z1 z2 z3 z4 z5
        clear hzs hbd
        obtain ⟨X, hX⟩ : ∃ X, X = wo2.alloc (Obj.cells #[.int .i64 bd.kd, .slice za bd.zs.length zc, .int .i64 bd.un, .int .i64 bd.ro, .int .i64 bd.pr, .bool bd.sh] 46) := ⟨_, rfl⟩
        have HX := hZ9 hX
        have hbX : Below wo2.heap.size wo2 X := by rw [hX]; exact (Below.refl _ _).alloc (Nat.le_refl _) _
        have hbX2 := hb.trans (hbX.mono hb.size)
        have XN := hZ9 (show X.heap[wo2.heap.size]? = some (Obj.cells #[.int .i64 bd.kd, .slice za bd.zs.length zc, .int .i64 bd.un, .int .i64 bd.ro, .int .i64 bd.pr, .bool bd.sh] 46) by rw [hX]; exact heap_alloc_new _ _)
        have X0 := hZ9 ((hbX2.block _ (by have := HbT.out.size; omega)).trans T0.out)
        have XV := hZ9 ((hbX2.block _ (ltB9 TV.out)).trans TV.out)
        obtain ⟨U, hU⟩ : ∃ U, U = X.alloc (Obj.cells #[.int .i64 ac, .int .i64 sb, .string pr, .int .i64 (j : Int), .int .i64 bd.kd, .slice za bd.zs.length zc, .int .i64 q.1, .int .i64 q.2, .int .i64 bd.un, .int .i64 bd.un, .int .i64 bd.pr, .bool bd.sh] 26) := ⟨_, rfl⟩
        have hbXU : Below X.heap.size X U := by rw [hU]; exact (Below.refl _ _).alloc (Nat.le_refl _) _
        have U1 := hZ9 (show U.heap[X.heap.size]? = some (Obj.cells #[.int .i64 ac, .int .i64 sb, .string pr, .int .i64 (j : Int), .int .i64 bd.kd, .slice za bd.zs.length zc, .int .i64 q.1, .int .i64 q.2, .int .i64 bd.un, .int .i64 bd.un, .int .i64 bd.pr, .bool bd.sh] 26) by rw [hU]; exact heap_alloc_new _ _)
        have U0 := hZ9 ((hbXU.block _ (ltB9 XN.out)).trans XN.out)
        have hbU := hbX.trans (hbXU.mono hbX.size)
        have HbU := hZ9 hbU
        have hbU2 := hb.trans (hbU.mono hb.size)
        have HbU2 := hZ9 hbU2
        have HU := hZ9 hU
        clear hU hX hbU hbU2 hbX hbX2 hbXU hb
        go_upto_region 11 with (fail)
        rw [← HX.out]
        clear x0 x1 x2 x3 x4 x5
        have h0 := cell_of_row X _ 0 _ _ _ X0.out
        have h1 := cell_of_row X _ 1 _ _ _ X0.out
        have h2 := cell_of_row X _ 2 _ _ _ X0.out
        have v0 := cell_of_row X _ 0 _ _ _ XV.out
        have v1 := cell_of_row X _ 1 _ _ _ XV.out
        have tQ := fun j => cell_of_row X _ j _ _ _ XN.out
        have b0 := tQ 0
        have b1 := tQ 1
        have b2 := tQ 2
        have b3 := tQ 3
        have b4 := tQ 4
        have b5 := tQ 5
        clear tQ
        go_upto_region 12 with (fail)
        rw [← HU.out]
        clear h0 h1 h2 v0 v1 b0 b1 b2 b3 b4 b5
        have tQ := fun j => cell_of_row U _ j _ _ _ U1.out
        have m0 := tQ 0
        have m1 := tQ 1
        have m2 := tQ 2
        have m3 := tQ 3
        have m4 := tQ 4
        have m5 := tQ 5
        have m6 := tQ 6
        have m7 := tQ 7
        have m8 := tQ 8
        have m9 := tQ 9
        have m10 := tQ 10
        have m11 := tQ 11
        clear tQ
        have n3 := cell_of_row U _ 3 _ _ _ U0.out
        have HRX := hZ9 (RecAt.one (c := grCells) (sz := 13) U ((⟨buOf ac (sb, pr) q (j : Int) bd, za, bd.zs.length, zc⟩ : BuX), bd.ro) 67 #[.int .i64 ac, .int .i64 sb, .string pr, .int .i64 (j : Int), .int .i64 bd.kd, .slice za bd.zs.length zc, .int .i64 q.1, .int .i64 q.2, .int .i64 bd.un, .int .i64 bd.un, .int .i64 bd.pr, .bool bd.sh, .int .i64 bd.ro] rfl)
        have HownU := hZ9 (ownsRow_below Hown.out HbU.out)
        have hbs := HbU2.out.size
        go_wp2_with (at_builtin; refine append_gr rfl _ _ rfl T.heap.size (Nat.le_trans hbs (World.le_alloc _ _)) _ _ O [((⟨buOf ac (sb, pr) q (j : Int) bd, za, bd.zs.length, zc⟩ : BuX), bd.ro)] rfl rfl (HownU.out.alloc _) HRX.out (by rw [List.length_singleton]; omega) ?_)
        intro R hR v5 w5 own5 hg5
        have Hg5 := hZ9 hg5
        have HRe := hZ9 (show plG R = grantsL ac (sb, pr) q (bs.take (j + 1)) by rw [hR.out, HG1.out, ← HO.out]; unfold plG; rw [List.map_append]; rfl)
        have HRl := hZ9 (show R.length = j + 1 by rw [hR.out, List.length_append, HOl.out]; rfl)
        have HR5 := hZ9 (show ∀ x ∈ R, BuRd T x.1 from fun x hx => by
         rw [hR.out] at hx
         rcases List.mem_append.1 hx with hx | hx
         · exact Hrd.out x hx
         rw [List.mem_singleton.1 hx]
         exact ⟨Hz.out, Hs.out, by show bd.zs.length * 16 ≤ _; have := HZl.out; omega⟩)
        have Hb5 := hZ9 ((HbU2.out.alloc hbs (Obj.cells #[.int .i64 ac, .int .i64 sb, .string pr, .int .i64 (j : Int), .int .i64 bd.kd, .slice za bd.zs.length zc, .int .i64 q.1, .int .i64 q.2, .int .i64 bd.un, .int .i64 bd.un, .int .i64 bd.pr, .bool bd.sh, .int .i64 bd.ro] 67)).grown Hg5.out (Nat.le_trans hbs (World.le_alloc _ _)) (fun g hg => (ownsRow_block HownU.out g hg).1))
        have Own5 := hZ9 own5
        clear own5 hg5 hR hbs m0
        go_wp2
        exact ⟨⟨j + 1, R, by omega, by go_num, HRe, HRl.out, Own5.out, HR5.out, Hb5.out⟩, by simp [intOf]; omega⟩
      have HE := hZ9 (show plG O = GG by rw [HG.out, HO.out, List.take_of_length_le (by omega)])
      have HbF := hZ9 (Hw0.out.trans ((HbT.out.trans (Hbo.out.mono HbT.out.size)).mono Hw0.out.size))
      have Own5 := hZ9 (own_down Hown.out (show w.heap.size ≤ T.heap.size by have := HbT.out.size; omega))
      clear hown hb HG
      go_wp2
      go_ret
      exact ⟨_, _, O, rfl, Own5.out, HE.out, fun x hx => (Hrd.out x hx).below Hbo.out, HbF.out⟩
  have HE := hZ9 (Hnone.out (firstP_end (by omega) Hn.out))
  have HbF := hZ9 (Hw0.out.trans (hb.mono Hw0.out.size))
  clear hb hn
  go_wp2
  go_ret
  exact ⟨none, 0, [], rfl, World.ownsRow_nil _ _ _ _, HE.out.symm, fun x hx => (by cases hx), HbF.out⟩
def anchorL (l : List Ev) (n : Int) : Int := match openE l n with
 | some e => e.vl
 | none => 0
theorem anchor_calls (v : Value) (l : List Ev) (n : Int) (w : World) (h : EvsAt w v l) :
 Calls Try.prog 15 #[v, .int .i64 n] w fun e w' => e = .returned (.int .i64 (anchorL l n)) ∧ Below w.heap.size w w' := by
 have HE := hZ9 h.1
 obtain ⟨av, cap, rfl, hlc, hcm⟩ := rec_shape h.1
 unfold maxLen at hcm
 clear h
 go_enter Try.func15, Try.ntmps15
 go_wp2_with fail
 go_loopw [9] (fun i wr => ∃ k : Nat, k ≤ l.length ∧ i = .int .i64 k ∧ (l.take k).any (isOpen n) = false ∧ Below w.heap.size w wr) (fun i _ => l.length - (intOf i).toNat)
 case atStart => exact ⟨0, Nat.zero_le _, rfl, rfl, Below.refl _ _⟩
 case round =>
  obtain ⟨wo, rfl⟩ : ∃ wo : World, wo = wr := ⟨_, rfl⟩
  obtain ⟨k, hk, rfl, hno, hb⟩ := hrel
  have Hno := hZ9 hno
  have Hb := hZ9 hb
  clear hno
  by_cases hlt : k < l.length
  · have hk1 : (k : Int) < (l.length : Int) := by omega
    have hk0 : (0 : Int) ≤ (k : Int) := Int.natCast_nonneg _
    obtain ⟨a2, n2, e2, -, -, hx⟩ := HE.out.below hb
    cases e2
    obtain ⟨bb, o, rfl, hB, hx⟩ := hx (by rintro rfl; cases hlt)
    have x0 : wo.cell? ⟨bb, o + k * 7, none⟩ = some (.int .i64 (l[k]).tm) := hx k hlt 0 (by decide)
    have x1 : wo.cell? ⟨bb, o + k * 7 + 1, none⟩ = some (.int .i64 (l[k]).kd) := hx k hlt 1 (by decide)
    have x2 : wo.cell? ⟨bb, o + k * 7 + 2, none⟩ = some (.int .i64 (l[k]).ac) := hx k hlt 2 (by decide)
    have x3 : wo.cell? ⟨bb, o + k * 7 + 3, none⟩ = some (.int .i64 (l[k]).sb) := hx k hlt 3 (by decide)
    have x4 : wo.cell? ⟨bb, o + k * 7 + 4, none⟩ = some (.string (l[k]).nu) := hx k hlt 4 (by decide)
    have x5 : wo.cell? ⟨bb, o + k * 7 + 5, none⟩ = some (.string (l[k]).nm) := hx k hlt 5 (by decide)
    have x6 : wo.cell? ⟨bb, o + k * 7 + 6, none⟩ = some (.int .i64 (l[k]).vl) := hx k hlt 6 (by decide)
    have HH := hZ9 (fun hp => find_none (p := isOpen n) hlt Hno.out hp)
    have HT := hZ9 (fun hp => any_take (p := isOpen n) hlt Hno.out hp)
    clear hx hb
    generalize l[k] = ev at *
    obtain ⟨Y, hY⟩ : ∃ Y, Y = wo.alloc (Obj.cells #[.int .i64 ev.tm, .int .i64 ev.kd, .int .i64 ev.ac, .int .i64 ev.sb, .string ev.nu, .string ev.nm, .int .i64 ev.vl] 44) := ⟨_, rfl⟩
    have YN := hZ9 (show Y.heap[wo.heap.size]? = some (Obj.cells #[.int .i64 ev.tm, .int .i64 ev.kd, .int .i64 ev.ac, .int .i64 ev.sb, .string ev.nu, .string ev.nm, .int .i64 ev.vl] 44) by rw [hY]; exact heap_alloc_new _ _)
    have HbY := hZ9 (show Below w.heap.size w Y by rw [hY]; exact Hb.out.alloc Hb.out.size _)
    have HY := hZ9 hY
    clear hY
    go_upto_region 4 with (fail)
    rw [← HY.out]
    clear x0 x1 x2 x3 x4 x5 x6
    have tQ := fun j => cell_of_row Y _ j _ _ _ YN.out
    have x0 := tQ 0
    have x1 := tQ 1
    have x2 := tQ 2
    have x3 := tQ 3
    have x4 := tQ 4
    have x5 := tQ 5
    have x6 := tQ 6
    clear tQ
    obtain ⟨tm, kd, ac, sb, nu, nm, vl⟩ := ev
    dsimp only at x0 x1 x2 x3 x4 x5 x6
    cases hq1 : (kd == 1) with
    | false =>
     have HE2 := hZ9 (HT.out (by unfold isOpen; rw [show decide (kd = 1) = false from decide_eq_false (beq_eq_false_iff_ne.1 hq1)]; rfl))
     clear HH HT
     go_wp2
     exact ⟨⟨k + 1, by omega, by go_num, HE2.out, HbY.out⟩, by simp [intOf]; omega⟩
    | true =>
     cases hq2 : (ac == n) with
     | false =>
      have HE2 := hZ9 (HT.out (by unfold isOpen; rw [show decide (ac = n) = false from decide_eq_false (beq_eq_false_iff_ne.1 hq2), Bool.and_false]))
      clear HH HT
      go_wp2
      exact ⟨⟨k + 1, by omega, by go_num, HE2.out, HbY.out⟩, by simp [intOf]; omega⟩
     | true =>
      have HE2 := hZ9 (HH.out (by unfold isOpen; rw [show decide (kd = 1) = true from decide_eq_true (beq_iff_eq.1 hq1), show decide (ac = n) = true from decide_eq_true (beq_iff_eq.1 hq2)]; rfl))
      clear HH HT
      go_wp2
      go_ret
      exact ⟨ret_int (by unfold anchorL openE; rw [HE2.out]), HbY.out⟩
  have HE2 := hZ9 (find_all (p := isOpen n) (by omega) Hno.out)
  go_wp2
  go_ret
  exact ⟨ret_int (by unfold anchorL openE; rw [HE2.out]), hb⟩
theorem bu_one (a : BuX) : ∀ u ∈ buCells a, u.oneCell' = true := by
 intro u hu
 unfold buCells at hu
 simp only [List.mem_cons, List.not_mem_nil, or_false] at hu
 rcases hu with rfl | rfl | rfl | rfl | rfl | rfl | rfl | rfl | rfl | rfl | rfl | rfl <;> rfl
theorem Try.buInfo : (Try.prog.info? 26).map (fun i => (i.zero, i.size, i.bytes)) = some (some (.agg #[.int .i64 0, .int .i64 0, .string ⟨#[]⟩, .int .i64 0, .int .i64 0, .slice none 0 0, .int .i64 0, .int .i64 0, .int .i64 0, .int .i64 0, .int .i64 0, .bool false]), 12, 120) := by kernel_rfl
theorem append_bu {w : World} {ops : Array Oper} {rest : List Oper} {o : Oper} {a : Act} {Q : Exit → Act → World → Prop} (hgd : o.guard = none) (s x : Operand)
 (ho : o.op = .call { callee := .builtin .append, args := #[s, x], argTypes := #[33, 33] })
 (base : Nat) (hbase : base ≤ w.heap.size) (v vx : Value) (L X : List BuX) (hs : a.eval s = v) (hx : a.eval x = vx) (hown : w.ownsRow base 26 12 v L.length (L.flatMap buCells)) (hX : RecAt buCells 12 w vx X) (hlen : L.length + X.length ≤ 1000000)
 (h : ∀ R : List BuX, RowKit.Hid (R = L ++ X) → ∀ v' w', w'.ownsRow base 26 12 v' R.length (R.flatMap buCells) → w.grownBy w' v.ownBlock → wpList Try.prog ops Q rest (a.put o.dst v') w') : wpList Try.prog ops Q (o :: rest) a w :=
 append_rec2 (c := buCells) (sz := 12) (fun _ => rfl) bu_one 26 33 _ 120 Try.underlying33 Try.buInfo rfl (by decide) hgd s x ho base hbase v vx L X hs hx hown hX (by unfold maxLen; omega) (by omega) h
def BusTo (L : List Bu) (w : World) (e : Ending) (w' : World) : Prop := ∃ (a : Option Addr) (c : Nat) (X : List BuX), e = .returned (.slice a X.length c) ∧ w'.ownsRow w.heap.size 26 12 (.slice a X.length c) X.length (X.flatMap buCells) ∧ plB X = L ∧ (∀ x ∈ X, BuRd w' x) ∧ Below w.heap.size w w'
theorem BusTo.none {L : List Bu} {w w' : World} (h : L = []) (hb : Below w.heap.size w w') : BusTo L w (.returned (.slice none 0 0)) w' := ⟨_, _, [], rfl, World.ownsRow_nil _ _ _ _, h.symm, fun x hx => (by cases hx), hb⟩
end Go.Proofs.Ytngippiilgdnoaa
namespace Go.Proofs.Ytngippiilgdnoaa
open Go.RowKit
end Go.Proofs.Ytngippiilgdnoaa
namespace Go.Proofs.Ytngippiilgdnoaa
open Go.RowKit
def GsTo (G : List (Bu × Int)) (w : World) (e : Ending) (w' : World) : Prop := ∃ (a : Option Addr) (c : Nat) (X : List BuX) (ba : Option Addr) (bc : Nat) (bs : List Bd), e = .returned (.tuple #[.slice a X.length c, .slice ba bs.length bc]) ∧ w'.ownsRow w.heap.size 26 12 (.slice a X.length c) X.length (X.flatMap buCells) ∧ plB X = G.map (·.1) ∧ (∀ x ∈ X, BuO w.heap.size w' x) ∧ BdsAt w' (.slice ba bs.length bc) bs ∧ bs.map (·.ro) = G.map (·.2) ∧ Below w.heap.size w w'
theorem GsTo.none {G : List (Bu × Int)} {w w' : World} (h : G = []) (hb : Below w.heap.size w w') : GsTo G w (.returned (.tuple #[.slice none 0 0, .slice none 0 0])) w' :=
 ⟨_, _, [], _, _, [], rfl, World.ownsRow_nil _ _ _ _, by rw [h]; rfl, fun x hx => (by cases hx), bds_nil _, by rw [h]; rfl, hb⟩
theorem bu_block {w : World} {g : Nat} {cs : Array Value} {t : TypeId} {fr : Nat × Nat} (hg : w.heap[g]? = some (.cells cs t fr)) (x : BuX) (h : cs = (buCells x).toArray) : RecAt buCells 12 w (.slice (some ⟨g, 0, none⟩) 1 1) [x] := rec_block hg x h
def GsVal (G : List (Bu × Int)) (B : Nat) (w : World) (y : Value) : Prop := ∃ (a : Option Addr) (c : Nat) (X : List BuX) (ba : Option Addr) (bc : Nat) (bs : List Bd), y = .tuple #[.slice a X.length c, .slice ba bs.length bc] ∧ w.ownsRow B 26 12 (.slice a X.length c) X.length (X.flatMap buCells) ∧ plB X = G.map (·.1) ∧ (∀ x ∈ X, BuO B w x) ∧ BdsAt w (.slice ba bs.length bc) bs ∧ bs.map (·.ro) = G.map (·.2)
def BuVal (G : List (Bu × Int)) (B : Nat) (w : World) (y : Value) : Prop := ∃ (a : Option Addr) (c : Nat) (X : List BuX), y = .slice a X.length c ∧ w.ownsRow B 26 12 (.slice a X.length c) X.length (X.flatMap buCells) ∧ plB X = G.map (·.1) ∧ (∀ x ∈ X, BuO B w x)
def BdVal (G : List (Bu × Int)) (w : World) (y : Value) : Prop := ∃ (ba : Option Addr) (bc : Nat) (bs : List Bd), y = .slice ba bs.length bc ∧ BdsAt w (.slice ba bs.length bc) bs ∧ bs.map (·.ro) = G.map (·.2)
theorem GsVal.below {G : List (Bu × Int)} {B : Nat} {w w' : World} {y : Value} (h : GsVal G B w y) (hb : Below w.heap.size w w') : GsVal G B w' y := by
 obtain ⟨a, c, X, ba, bc, bs, h1, h2, h3, h4, h5, h6⟩ := h
 exact ⟨a, c, X, ba, bc, bs, h1, ownsRow_below h2 hb, h3, fun x hx => (h4 x hx).below hb, h5.below hb, h6⟩
theorem BuVal.below {G : List (Bu × Int)} {B : Nat} {w w' : World} {y : Value} (h : BuVal G B w y) (hb : Below w.heap.size w w') : BuVal G B w' y := by
 obtain ⟨a, c, X, h1, h2, h3, h4⟩ := h
 exact ⟨a, c, X, h1, ownsRow_below h2 hb, h3, fun x hx => (h4 x hx).below hb⟩
theorem BdVal.below {G : List (Bu × Int)} {w w' : World} {y : Value} (h : BdVal G w y) (hb : Below w.heap.size w w') : BdVal G w' y := by
 obtain ⟨ba, bc, bs, h1, h5, h6⟩ := h
 exact ⟨ba, bc, bs, h1, h5.below hb, h6⟩
def PeVal (A : List (Int × Int)) (w : World) (y : Value) : Prop := ∃ (a : Option Addr) (c : Nat), y = .slice a A.length c ∧ PersAt w (.slice a A.length c) A
theorem PeVal.below {A : List (Int × Int)} {w w' : World} {y : Value} (h : PeVal A w y) (hb : Below w.heap.size w w') : PeVal A w' y := by
 obtain ⟨a, c, h1, h2⟩ := h
 exact ⟨a, c, h1, h2.below hb⟩
def HoVal (ac sb : Int) (pr : ByteArray) (A : List (Int × Int)) (w : World) (y : Value) : Prop := ∃ (a : Option Addr) (c : Nat), y = .agg #[.int .i64 ac, .int .i64 sb, .string pr, .slice a A.length c] ∧ PersAt w (.slice a A.length c) A
theorem HoVal.below {ac sb : Int} {pr : ByteArray} {A : List (Int × Int)} {w w' : World} {y : Value} (h : HoVal ac sb pr A w y) (hb : Below w.heap.size w w') : HoVal ac sb pr A w' y := by
 obtain ⟨a, c, h1, h2⟩ := h
 exact ⟨a, c, h1, h2.below hb⟩
theorem addr_plus (b o j : Nat) : (⟨b, o, none⟩ : Addr).add j = ⟨b, o + j, none⟩ := by unfold Addr.add; split <;> simp_all
theorem kT_map {α β : Type} (f : α → β) (p : β → Bool) : ∀ l : List α, kT p (l.map f) = kT (fun x => p (f x)) l
 | [] => rfl
 | x :: r => by
  unfold kT
  rw [List.map_cons, List.takeWhile_cons, List.takeWhile_cons]
  split
  · rw [List.length_cons, List.length_cons]; exact congrArg (· + 1) (kT_map f p r)
  rfl
theorem plB_ins (x : BuX) (X : List BuX) : plB (insT (fun y : BuX => earlB y.b x.b) x X) = insB x.b (plB X) := by
 unfold insB insT plB
 rw [kT_map]
 simp only [List.map_append, List.map_take, List.map_drop, List.map_cons, List.map_nil]
def WiTo (R : List BuX) (w : World) (e : Ending) (w' : World) : Prop := ∃ (a : Option Addr) (c : Nat), e = .returned (.slice a R.length c) ∧ w'.ownsRow w.heap.size 26 12 (.slice a R.length c) R.length (R.flatMap buCells) ∧ Below w.heap.size w w'
theorem WiTo.of {R Q : List BuX} {w w' : World} {a : Option Addr} {c : Nat} (h : w'.ownsRow w.heap.size 26 12 (.slice a R.length c) R.length (R.flatMap buCells)) (hR : R = Q) (hb : Below w.heap.size w w') : WiTo Q w (.returned (.slice a R.length c)) w' := by
 subst hR; exact ⟨a, c, rfl, h, hb⟩
def CrVal (base : Nat) (Q : List Bu) (w : World) (y : Value) : Prop := ∃ (a : Option Addr) (c : Nat) (R : List BuX), y = .slice a R.length c ∧ w.ownsRow base 26 12 (.slice a R.length c) R.length (R.flatMap buCells) ∧ plB R = Q ∧ ∀ x ∈ R, BuO base w x
theorem CrVal.below {base : Nat} {Q : List Bu} {w w' : World} {y : Value} (h : CrVal base Q w y) (hb : Below w.heap.size w w') : CrVal base Q w' y := by
 obtain ⟨a, c, R, h1, h2, h3, h4⟩ := h
 exact ⟨a, c, R, h1, ownsRow_below h2 hb, h3, fun x hx => (h4 x hx).below hb⟩
def BxVal (base : Nat) (b : Bu) (w : World) (y : Value) : Prop := ∃ z : BuX, y = buVal z ∧ z.b = b ∧ BuO base w z
theorem BxVal.below {base : Nat} {b : Bu} {w w' : World} {y : Value} (h : BxVal base b w y) (hb : Below w.heap.size w w') : BxVal base b w' y := by
 obtain ⟨z, h1, h2, h3⟩ := h
 exact ⟨z, h1, h2, h3.below hb⟩
theorem find_plB (p : Bu → Bool) (X : List BuX) : (plB X).find? p = (X.find? (fun x : BuX => p x.b)).map (·.b) := by
 unfold plB
 rw [List.find?_map]
 rfl
structure HoX where
 h : Had
 pa : Option Addr
 pn : Nat
 pc : Nat
def hoCells (ac : Int) (x : HoX) : List Value := [.int .i64 ac, .int .i64 x.h.1, .string x.h.2, .slice x.pa x.pn x.pc]
theorem ho_one (ac : Int) (x : HoX) : ∀ u ∈ hoCells ac x, u.oneCell' = true := by
 intro u hu
 unfold hoCells at hu
 simp only [List.mem_cons, List.not_mem_nil, or_false] at hu
 rcases hu with rfl | rfl | rfl | rfl <;> rfl
def HoRd (l : List Ev) (w : World) (x : HoX) : Prop := PersAt w (.slice x.pa x.pn x.pc) (actL x.h.1 x.h.2 l) ∧ x.h.2.size ≤ maxLen
theorem HoRd.below {l : List Ev} {w w' : World} {x : HoX} (h : HoRd l w x) (hb : Below w.heap.size w w') : HoRd l w' x := ⟨h.1.below hb, h.2⟩
def HoO (l : List Ev) (base : Nat) (w : World) (x : HoX) : Prop := w.ownsRow base 24 2 (.slice x.pa x.pn x.pc) (actL x.h.1 x.h.2 l).length ((actL x.h.1 x.h.2 l).flatMap perCells) ∧ x.h.2.size ≤ maxLen
theorem HoO.below {l : List Ev} {base : Nat} {w w' : World} {x : HoX} (h : HoO l base w x) (hb : Below w.heap.size w w') : HoO l base w' x := ⟨ownsRow_below h.1 hb, h.2⟩
theorem HoO.rd {l : List Ev} {base : Nat} {w : World} {x : HoX} (h : HoO l base w x) : HoRd l w x := ⟨PersAt.own h.1, h.2⟩
theorem HoO.growT {l : List Ev} {base base' : Nat} {w w' : World} {x : HoX} (h : HoO l base w x) {v : Value} {e : TypeId} {sz n : Nat} {xs : List Value} (ho : w.ownsRow base' e sz v n xs) (he : e ≠ 24) (hg : w.grownBy w' v.ownBlock) : HoO l base w' x :=
 ⟨own_grow h.1 hg (own_other2 h.1 ho he), h.2⟩
def HosTo (l : List Ev) (ac : Int) (w : World) (e : Ending) (w' : World) : Prop := ∃ (a : Option Addr) (c : Nat) (X : List HoX), e = .returned (.slice a X.length c) ∧ RecAt (hoCells ac) 4 w' (.slice a X.length c) X ∧ HadOk l ac (X.map (·.h)) ∧ (∀ x ∈ X, HoRd l w' x) ∧ X.length ≤ 10000 ∧ Below w.heap.size w w'
def HoVal1 (ac : Int) (l : List Ev) (h : Had) (B : Nat) (w : World) (y : Value) : Prop := ∃ x : HoX, y = .agg #[.int .i64 ac, .int .i64 h.1, .string h.2, .slice x.pa x.pn x.pc] ∧ x.h = h ∧ HoO l B w x
theorem HoVal1.below {ac : Int} {l : List Ev} {h : Had} {B : Nat} {w w' : World} {y : Value} (q : HoVal1 ac l h B w y) (hb : Below w.heap.size w w') : HoVal1 ac l h B w' y := by
 obtain ⟨x, h1, h2, h3⟩ := q
 exact ⟨x, h1, h2, h3.below hb⟩
theorem append_pe {w : World} {ops : Array Oper} {rest : List Oper} {o : Oper} {a : Act} {Q : Exit → Act → World → Prop} (hgd : o.guard = none) (s x : Operand)
 (ho : o.op = .call { callee := .builtin .append, args := #[s, x], argTypes := #[60, 60] })
 (base : Nat) (hbase : base ≤ w.heap.size) (v vx : Value) (L X : List (Int × Int)) (hs : a.eval s = v) (hx : a.eval x = vx) (hown : w.ownsRow base 24 2 v L.length (L.flatMap perCells)) (hX : RecAt perCells 2 w vx X) (hlen : L.length + X.length ≤ 1000000)
 (h : ∀ R : List (Int × Int), RowKit.Hid (R = L ++ X) → ∀ v' w', w'.ownsRow base 24 2 v' R.length (R.flatMap perCells) → w.grownBy w' v.ownBlock → wpList Try.prog ops Q rest (a.put o.dst v') w') : wpList Try.prog ops Q (o :: rest) a w :=
 append_rec2 (c := perCells) (sz := 2) (fun _ => rfl) per_one2 24 60 _ 16 Try.underlying60 Try.perInfo rfl (by decide) hgd s x ho base hbase v vx L X hs hx hown hX (by unfold maxLen; omega) (by omega) h
def CycTo (a : Int) (A : List (Int × Int)) (t : Int) (w : World) (e : Ending) (w' : World) : Prop := ∃ O, CycsOk a A t O ∧ PersTo w O e w'
theorem flat_take {α β : Type} (f : α → List β) (L : List α) (k : Nat) (h : k < L.length) : (L.take (k + 1)).flatMap f = (L.take k).flatMap f ++ f L[k] := by
 rw [List.take_succ_eq_append_getElem h, List.flatMap_append, List.flatMap_singleton]
theorem flat_pre {α β : Type} (f : α → List β) (L : List α) (k : Nat) : ((L.take k).flatMap f).length ≤ (L.flatMap f).length := by
 have h : L.flatMap f = (L.take k).flatMap f ++ (L.drop k).flatMap f := by rw [← List.flatMap_append, List.take_append_drop]
 rw [h, List.length_append]
 omega
structure PeBox (B g : Nat) (L : List (Int × Int)) (w : World) : Prop where
 ex : ∃ (a : Option Addr) (c : Nat), w.heap[g]? = some (Obj.cells #[.slice a L.length c] 60) ∧ w.ownsRow B 24 2 (.slice a L.length c) L.length (L.flatMap perCells)
theorem PeBox.below {B g : Nat} {L : List (Int × Int)} {w w' : World} (h : PeBox B g L w) (hb : Below w.heap.size w w') : PeBox B g L w' := by
 obtain ⟨a, c, h1, h2⟩ := h.ex
 exact ⟨a, c, (hb.block _ (ltB9 h1)).trans h1, ownsRow_below h2 hb⟩
theorem PeBox.lt {B g : Nat} {L : List (Int × Int)} {w : World} (h : PeBox B g L w) : g < w.heap.size := by
 obtain ⟨a, c, h1, h2⟩ := h.ex
 exact (ltB9 h1)
def wkPhi (wa : World) (vo : Value) (a p1 p2 : Int) (L : List (Int × Int)) : Nat → Value → World → Prop
 | 0, v, _ => v = vo
 | 1, v, _ => v = .int .i64 a
 | 2, v, _ => v = .agg #[.int .i64 p1, .int .i64 p2]
 | 3, v, w => ∃ y, v = y ∧ w.ownsRow wa.heap.size 24 2 y L.length (L.flatMap perCells)
 | _, _, _ => True
theorem wkPhi_stays {wa : World} {vo : Value} {a p1 p2 : Int} {L : List (Int × Int)} {w1 w2 : World} (hb : Below w1.heap.size w1 w2) : ∀ kQ yQ, wkPhi wa vo a p1 p2 L kQ yQ w1 → wkPhi wa vo a p1 p2 L kQ yQ w2
 | 0, _, h => h
 | 1, _, h => h
 | 2, _, h => h
 | 3, _, h => (by obtain ⟨y, h1, h2⟩ := h; exact ⟨y, h1, ownsRow_below h2 hb⟩)
 | _ + 4, _, _ => trivial
theorem walk1_calls (B tb ab nb : Nat) (a t : Int) (p : Int × Int) (L : List (Int × Int)) (w : World) (ha : 1 ≤ a) (hb : a ≤ 28) (h0 : 0 ≤ t) (h1 : t < 12622780800) (hB : B ≤ w.heap.size) (hab : B ≤ ab) (htb : tb < B) (hnb : nb < B) (ht : w.cell? ⟨tb, 0, none⟩ = some (.int .i64 t)) (hn : w.cell? ⟨nb, 0, none⟩ = some (.int .i64 a)) (hbox : PeBox B ab L w) (hl : L.length + (walkC a t p).length ≤ 2000) :
 Calls Try.prog 22 #[.agg #[.int .i64 p.1, .int .i64 p.2], .pointer (some ⟨tb, 0, none⟩), .pointer (some ⟨ab, 0, none⟩), .pointer (some ⟨nb, 0, none⟩)] w fun e w' => e = .returned (.tuple #[]) ∧ PeBox B ab (L ++ walkC a t p) w' ∧ Below B w w' := by
 obtain ⟨W, hW⟩ : ∃ W, W = w.alloc (Obj.cells #[.int .i64 p.1, .int .i64 p.2] 24) := ⟨_, rfl⟩
 have hw0 : Below w.heap.size w W := by rw [hW]; exact (Below.refl _ _).alloc (Nat.le_refl _) _
 have R0 := hZ9 (show W.heap[w.heap.size]? = some (Obj.cells #[.int .i64 p.1, .int .i64 p.2] 24) by rw [hW]; exact heap_alloc_new _ _)
 have Hw0 := hZ9 (hw0.mono hB)
 have HI := hZ9 (intersect_calls p.1 p.2 0 (t + 1) W)
 have hwt : wrap64 (t + 1) = t + 1 := by unfold wrap64; omega
 have HbW := hZ9 (hbox.below hw0)
 have c0 := cell_of_row W _ 0 _ _ _ R0.out
 have c1 := cell_of_row W _ 1 _ _ _ R0.out
 have ct := (hw0.cell (p := ⟨tb, 0, none⟩) (show tb < w.heap.size by omega)).trans ht
 have cn := (hw0.cell (p := ⟨nb, 0, none⟩) (show nb < w.heap.size by omega)).trans hn
 have hWB : B ≤ W.heap.size := Nat.le_trans hB hw0.size
 have HW := hZ9 hW
 have HWk := hZ9 (show walkC a t p = if meetB p.1 p.2 0 (t + 1) = true then cycOf a (max p.1 0, min p.2 (t + 1)) else [] from rfl)
 have Hme := hZ9 (show meetB p.1 p.2 0 (t + 1) = true → 0 ≤ max p.1 0 ∧ max p.1 0 < min p.2 (t + 1) ∧ min p.2 (t + 1) ≤ 12622780800 from fun h => by
  obtain ⟨v1, v2, v3⟩ := (meetB_iff _ _ _ _).1 h
  obtain ⟨w0, w1, w2⟩ := (validB_iff _ _).1 v1
  omega)
 have HCy := hZ9 (show ∀ q : Int × Int, 0 ≤ q.1 → q.1 < q.2 → q.2 ≤ 12622780800 → ∀ W, Calls Try.prog 24 #[.int .i64 a, .agg #[.int .i64 q.1, .int .i64 q.2]] W (fun e w' => ∃ v, e = .returned v ∧ w'.ownsRow W.heap.size 24 2 v (cycOf a q).length ((cycOf a q).flatMap perCells) ∧ Below W.heap.size W w') from fun q s0 s1 s2 W => cycles_own a q.1 q.2 _ _ W ha hb ((validB_iff _ _).2 ⟨s0, s1, s2⟩) (moOf_is s0 (by omega)) (moOf_is (by omega) (by omega)))
 generalize walkC a t p = wk at *
 clear hW hw0 ht hn hbox h0 h1
 cases hm : meetB p.1 p.2 0 (t + 1) with
 | false =>
  have HE := hZ9 (HWk.out.trans (if_neg (by rw [hm]; decide)))
  unfold meetV at HI
  rw [hm, if_neg (by decide)] at HI
  clear hm
  go_enter Try.func22, Try.ntmps22
  go_upto_region 1 with (fail)
  rw [← HW.out]
  go_wp2_with fail
  refine HI.out.mono ?_
  rintro e w2 ⟨rfl, hb2⟩
  have Hb2 := hZ9 ((hb2.alloc hb2.size (Obj.cells #[.int .i64 0, .int .i64 0] 24)))
  clear hb2 c0 c1 ct cn
  go_wp2
  go_end0
  exact ⟨rfl, by rw [HE.out, List.append_nil]; exact HbW.out.below Hb2.out, Hw0.out.trans (Hb2.out.mono hWB)⟩
 | true =>
  obtain ⟨q, hq⟩ : ∃ q : Int × Int, q = (max p.1 0, min p.2 (t + 1)) := ⟨_, rfl⟩
  have HE := hZ9 (HWk.out.trans (if_pos hm))
  have hq3 := Hme.out hm
  have hq1 : max p.1 0 = q.1 := by rw [hq]
  have hq2 : min p.2 (t + 1) = q.2 := by rw [hq]
  rw [← hq] at HE
  unfold meetV at HI
  rw [hm, if_pos rfl, hq1, hq2] at HI
  rw [hq1, hq2] at hq3
  have HC1 := hZ9 (HCy.out q hq3.1 hq3.2.1 hq3.2.2)
  clear hm hq hq1 hq2 hq3 HCy
  rw [HE.out] at hl
  generalize cycOf a q = Lq at *
  go_enter Try.func22, Try.ntmps22
  go_upto_region 1 with (fail)
  rw [← HW.out]
  go_wp2_with fail
  refine HI.out.mono ?_
  rintro e w2 ⟨rfl, hb2⟩
  obtain ⟨Y, hY⟩ : ∃ Y, Y = w2.alloc (Obj.cells #[.int .i64 q.1, .int .i64 q.2] 24) := ⟨_, rfl⟩
  have hbY : Below w2.heap.size w2 Y := by rw [hY]; exact (Below.refl _ _).alloc (Nat.le_refl _) _
  have YN := hZ9 (show Y.heap[w2.heap.size]? = some (Obj.cells #[.int .i64 q.1, .int .i64 q.2] 24) by rw [hY]; exact heap_alloc_new _ _)
  have hbWY := hb2.trans (hbY.mono hb2.size)
  have HbY := hZ9 (HbW.out.below hbWY)
  have HWY := hZ9 (hbWY.mono hWB)
  have hYB : B ≤ Y.heap.size := Nat.le_trans hWB hbWY.size
  have cn2 := (hbWY.cell (p := ⟨nb, 0, none⟩) (show nb < W.heap.size by omega)).trans cn
  have hnY : nb < Y.heap.size := by omega
  have hy2 : w2.heap.size < Y.heap.size := (ltB9 YN.out)
  have HY := hZ9 hY
  obtain ⟨aa, ca, hrow, hown⟩ := HbY.out.ex
  have habY : ab < Y.heap.size := (ltB9 hrow)
  have HAw := hZ9 (show ∀ Z, Below Y.heap.size Y Z → Z.cell? ⟨ab, 0, none⟩ = some (.slice aa L.length ca) ∧ Z.cell? ⟨nb, 0, none⟩ = some (.int .i64 a) ∧ Z.cell? ⟨w2.heap.size, 0, none⟩ = some (.int .i64 q.1) ∧ Z.cell? ⟨w2.heap.size, 1, none⟩ = some (.int .i64 q.2) from fun Z hZ =>
   ⟨cell_of_row Z _ 0 _ _ _ ((hZ.block _ habY).trans hrow), (hZ.cell (p := ⟨nb, 0, none⟩) hnY).trans cn2, cell_of_row Z _ 0 _ _ _ ((hZ.block _ hy2).trans YN.out), cell_of_row Z _ 1 _ _ _ ((hZ.block _ hy2).trans YN.out)⟩)
  have Hrow := hZ9 hrow
  have Hown := hZ9 hown
  clear hY hbY hbWY hb2 c0 c1 ct cn cn2 hrow hown
  go_upto_region 3 with (fail)
  rw [← HY.out]
  refine wp_region_free3 4 (fun w' => Below Y.heap.size Y w') (wkPhi Y (.slice aa L.length ca) a q.1 q.2 Lq) (by kernel_rfl) (by kernel_rfl) (Below.refl _ _).drew ?_ ?_
  · generalize hfr : (fun v : Nat → Value => _) = fr
    simp only [List.take_succ_cons, List.take_zero, List.map_cons, List.map_nil, putsL, List.setIfInBounds_toArray, List.set_cons_succ, List.set_cons_zero, Nat.zero_add, Nat.reduceAdd] at hfr
    simp only [List.take_succ_cons, List.take_zero, FreeHead]
    refine ⟨?_, ?_, ?_, ?_, trivial⟩
    · intro v w5 hC hd K hK
      obtain ⟨p0, p1, p2, p3⟩ := HAw.out w5 hC
      rw [← hfr] at hK ⊢
      go_simp
      exact hK _ _ hC (wkPhi_stays (Below.refl _ _)) rfl
    · intro v w5 hC hd K hK
      obtain ⟨p0, p1, p2, p3⟩ := HAw.out w5 hC
      rw [← hfr] at hK ⊢
      go_simp
      exact hK _ _ hC (wkPhi_stays (Below.refl _ _)) rfl
    · intro v w5 hC hd K hK
      obtain ⟨p0, p1, p2, p3⟩ := HAw.out w5 hC
      rw [← hfr] at hK ⊢
      go_simp
      exact hK _ _ hC (wkPhi_stays (Below.refl _ _)) rfl
    intro v w5 hC hd K hK
    obtain ⟨f1, f2, -⟩ := hd
    have e1 : v 1 = _ := f1
    have e2 : v 2 = _ := f2
    rw [← hfr] at hK ⊢
    simp only [e1, e2] at hK ⊢
    go_simp
    refine (HC1.out w5).mono ?_
    rintro e w6 ⟨y, rfl, own4, hb4⟩
    exact hK _ _ (hC.trans (hb4.mono hC.size)) (wkPhi_stays hb4) ⟨y, rfl, own_down own4 hC.size⟩
  intro v w5 hC hall
  obtain ⟨y, e3, hy⟩ : ∃ y, v 3 = y ∧ w5.ownsRow Y.heap.size 24 2 y Lq.length (Lq.flatMap perCells) := hall.2
  have e0 : v 0 = .slice aa L.length ca := hall.1.1.1.2
  have HRX := hZ9 (show RecAt perCells 2 w5 y Lq from RecAt.own (fun _ => rfl) hy)
  have HownU := hZ9 (ownsRow_below Hown.out hC)
  have Hrow5 := hZ9 ((hC.block _ habY).trans Hrow.out)
  have Hb5 := hZ9 (Hw0.out.trans (HWY.out.trans (hC.mono hYB)))
  have hbs : B ≤ w5.heap.size := Nat.le_trans hYB hC.size
  simp only [List.take_succ_cons, List.take_zero, List.map_cons, List.map_nil, putsL, List.setIfInBounds_toArray, List.set_cons_succ, List.set_cons_zero, Nat.zero_add, Nat.reduceAdd, List.drop_succ_cons, List.drop_zero]
  simp only [e0, e3]
  generalize v 1 = y1, v 2 = y2
  clear e0 e3 hy hall hC v HAw HC1
  refine append_pe rfl _ _ rfl B hbs _ _ L Lq rfl rfl HownU.out HRX.out (by omega) ?_
  intro R hR v7 w7 own7 hg7
  obtain ⟨a7, c7, rfl, -, -⟩ := own_shape own7
  have Hne := hZ9 (own_other HownU.out Hrow5.out (by decide))
  have Hrow7 := hZ9 ((hg7.block ab (ltB9 Hrow5.out) (fun h => Hne.out h.symm)).trans Hrow5.out)
  have Hb7 := hZ9 (Hb5.out.grown hg7 hbs (fun g hg => (ownsRow_block HownU.out g hg).1))
  have Own7 := hZ9 own7
  have Hne7 := hZ9 (own_other own7 Hrow7.out (by decide))
  have f0 := frozen_of_row w7 _ 0 _ _ Hrow7.out
  have g0 := cell_of_row w7 _ 0 _ _ _ Hrow7.out
  have HRe := hZ9 (show R = L ++ wk by rw [hR.out, HE.out])
  have HBx := hZ9 (show PeBox B ab R (w7.setCell ⟨ab, 0, none⟩ (.slice a7 R.length c7)) from ⟨a7, c7, row_set _ Hrow7.out, own_setCell1 Own7.out Hne7.out⟩)
  clear own7 hg7 hR hbs
  go_wp2
  go_end0
  exact ⟨rfl, by rw [← HRe.out]; exact HBx.out, Hb7.out.setCell hab _⟩
theorem pcyc_calls (l : List Ev) (ac : Int) (v : Value) (X : List HoX) (a t : Int) (w : World) (hX : RecAt (hoCells ac) 4 w v X) (hr : ∀ x ∈ X, HoRd l w x) (ha : 1 ≤ a) (hb : a ≤ 28) (h0 : 0 ≤ t) (h1 : t < 12622780800) (hin : ∀ p ∈ heldA l (X.map (·.h)), 0 ≤ p.1 ∧ p.1 < p.2 ∧ p.2 ≤ 12622780800) (hlen : ((heldA l (X.map (·.h))).flatMap (walkC a t)).length ≤ 1600) :
 Calls Try.prog 17 #[v, .int .i64 a, .int .i64 t] w (CycTo a (heldA l (X.map (·.h))) t w) := by
 have HRef := hZ9 (cycs_prog ha hb hin h0 h1)
 have hA : heldA l (X.map (·.h)) = X.flatMap (fun x => actL x.h.1 x.h.2 l) := by unfold heldA; rw [List.flatMap_map]
 have hA2 : (heldA l (X.map (·.h))).flatMap (walkC a t) = X.flatMap (fun x => (actL x.h.1 x.h.2 l).flatMap (walkC a t)) := by rw [hA, List.flatMap_assoc]
 rw [hA2] at HRef hlen
 have HPre := hZ9 (flat_pre (fun x : HoX => (actL x.h.1 x.h.2 l).flatMap (walkC a t)) X)
 have HFt := hZ9 (flat_take (fun x : HoX => (actL x.h.1 x.h.2 l).flatMap (walkC a t)) X)
 have HPr2 := hZ9 (flat_pre (walkC a t))
 have HFt2 := hZ9 (flat_take (walkC a t))
 obtain ⟨W, hW, r0, r1, hw0, hz0⟩ := two_rows2 w (Obj.cells #[.int .i64 a] 3) (Obj.cells #[.int .i64 t] 3)
 have HX := hZ9 (hX.below hw0)
 have Hr := hZ9 (fun x hx => (hr x hx).below hw0)
 have HSp := hZ9 (fun A => choose_span (C := chooseL A [] true false) rfl)
 have Ha := hZ9 (And.intro ha hb)
 have Ht := hZ9 (And.intro h0 h1)
 have Hw0 := hZ9 hw0
 have HW := hZ9 hW
 have R0 := hZ9 r0
 have R1 := hZ9 r1
 obtain ⟨Y, hY⟩ : ∃ Y, Y = W.alloc (Obj.cells #[.slice none 0 0] 60) := ⟨_, rfl⟩
 have hbY : Below W.heap.size W Y := by rw [hY]; exact (Below.refl _ _).alloc (Nat.le_refl _) _
 have YN := hZ9 (show Y.heap[W.heap.size]? = some (Obj.cells #[.slice none 0 0] 60) by rw [hY]; exact heap_alloc_new _ _)
 have HbY := hZ9 hbY
 have HPb := hZ9 (show PeBox W.heap.size W.heap.size [] Y from ⟨none, 0, YN.out, World.ownsRow_nil _ _ _ _⟩)
 have HY := hZ9 hY
 have HCl := hZ9 (show ∀ (p : Int × Int) (L : List (Int × Int)) (w1 : World), Below W.heap.size W w1 → PeBox W.heap.size W.heap.size L w1 → L.length + (walkC a t p).length ≤ 2000 → Calls Try.prog 22 #[.agg #[.int .i64 p.1, .int .i64 p.2], .pointer (some ⟨w.heap.size + 1, 0, none⟩), .pointer (some ⟨W.heap.size, 0, none⟩), .pointer (some ⟨w.heap.size, 0, none⟩)] w1 fun e w' => e = .returned (.tuple #[]) ∧ PeBox W.heap.size W.heap.size (L ++ walkC a t p) w' ∧ Below W.heap.size w1 w' from fun p L w1 hb1 hbx hll =>
  walk1_calls W.heap.size (w.heap.size + 1) W.heap.size w.heap.size a t p L w1 ha hb h0 h1 hb1.size (Nat.le_refl _) (by omega) (by omega) (cell_of_row w1 _ 0 _ _ _ ((hb1.block _ (by omega)).trans r1)) (cell_of_row w1 _ 0 _ _ _ ((hb1.block _ (by omega)).trans r0)) hbx hll)
 obtain ⟨av, cap, rfl, hlc, hcm⟩ := rec_shape hX
 unfold maxLen at hcm
 clear hX hr hA hA2 hin h0 h1 ha hb hW r0 r1 hw0 hY hbY
 generalize heldA l (X.map (·.h)) = AA at *
 go_enter Try.func17, Try.ntmps17
 go_upto_region 1 with (fail)
 rw [← HW.out]
 go_upto_region 2 with (fail)
 rw [← HY.out]
 go_wp2_with fail
 go_loopw [19] (fun i wr => ∃ (k : Nat) (O : List (Int × Int)), k ≤ X.length ∧ i = .int .i64 k ∧ RowKit.Hid (O = (X.take k).flatMap (fun x => (actL x.h.1 x.h.2 l).flatMap (walkC a t))) ∧ PeBox W.heap.size W.heap.size O wr ∧ Below W.heap.size W wr) (fun i _ => X.length - (intOf i).toNat)
 case atStart => exact ⟨0, [], Nat.zero_le _, rfl, hZ9 rfl, HPb.out, HbY.out⟩
 case round =>
  obtain ⟨wo, rfl⟩ : ∃ wo : World, wo = wr := ⟨_, rfl⟩
  obtain ⟨k, O, hk, rfl, HO, hbox, hb⟩ := hrel
  have Hbox := hZ9 hbox
  have Hb := hZ9 hb
  by_cases hlt : k < X.length
  · have hk1 : (k : Int) < (X.length : Int) := by omega
    have hk0 : (0 : Int) ≤ (k : Int) := Int.natCast_nonneg _
    have HTk := hZ9 (HFt.out k hlt)
    have HPk := hZ9 (HPre.out (k + 1))
    have HAc := hZ9 ((Hr.out _ (List.getElem_mem hlt)).1)
    obtain ⟨a3, c3, e3, -, -, hx⟩ := HX.out.below hb
    cases e3
    obtain ⟨bb, o, rfl, hB, hx⟩ := hx (by rintro rfl; cases hlt)
    have hx := hx k hlt
    have x0 : wo.cell? ⟨bb, o + k * 4, none⟩ = some (.int .i64 ac) := hx 0 (by decide)
    have x1 : wo.cell? ⟨bb, o + k * 4 + 1, none⟩ = some (.int .i64 (X[k]).h.1) := hx 1 (by decide)
    have x2 : wo.cell? ⟨bb, o + k * 4 + 2, none⟩ = some (.string (X[k]).h.2) := hx 2 (by decide)
    have x3 : wo.cell? ⟨bb, o + k * 4 + 3, none⟩ = some (.slice (X[k]).pa (X[k]).pn (X[k]).pc) := hx 3 (by decide)
    clear hx hbox
    generalize X[k] = x at *
    rw [HTk.out, List.length_append] at HPk
    rw [← HO.out] at HPk
    have HRel := hZ9 (show ∀ (Q : List (Int × Int)) (wx : World), Q = O ++ (actL x.h.1 x.h.2 l).flatMap (walkC a t) → PeBox W.heap.size W.heap.size Q wx → Below W.heap.size W wx → ∃ (k' : Nat) (O : List (Int × Int)), k' ≤ X.length ∧ Value.int .i64 ((k : Int) + 1) = .int .i64 k' ∧ RowKit.Hid (O = (X.take k').flatMap (fun x => (actL x.h.1 x.h.2 l).flatMap (walkC a t))) ∧ PeBox W.heap.size W.heap.size O wx ∧ Below W.heap.size W wx from fun Q wx h1 h2 h3 => ⟨k + 1, Q, hlt, by go_num, hZ9 (by rw [HTk.out, ← HO.out]; exact h1), h2, h3⟩)
    generalize actL x.h.1 x.h.2 l = A at *
    obtain ⟨aA, cA, eA, hA1, hA2⟩ := pers_shape HAc.out
    simp only [Value.slice.injEq] at eA
    obtain ⟨eA1, eA2, eA3⟩ := eA
    rw [eA1, eA2, eA3] at x3
    have HAc := hZ9 (show PersAt W (.slice aA A.length cA) A by
     have h := HAc.out
     rwa [eA1, eA2, eA3] at h)
    unfold maxLen at hA2
    clear eA1 eA2 eA3
    obtain ⟨U, hU⟩ : ∃ U, U = wo.alloc (Obj.cells #[.int .i64 ac, .int .i64 x.h.1, .string x.h.2, .slice aA A.length cA] 63) := ⟨_, rfl⟩
    have hbU : Below wo.heap.size wo U := by rw [hU]; exact (Below.refl _ _).alloc (Nat.le_refl _) _
    have UN := hZ9 (show U.heap[wo.heap.size]? = some (Obj.cells #[.int .i64 ac, .int .i64 x.h.1, .string x.h.2, .slice aA A.length cA] 63) by rw [hU]; exact heap_alloc_new _ _)
    have HbU := hZ9 (hb.trans (hbU.mono hb.size))
    have HboxU := hZ9 (Hbox.out.below hbU)
    have HU := hZ9 hU
    have u3 := cell_of_row U _ 3 _ _ _ UN.out
    have HP2 := hZ9 (HPr2.out A)
    have HF2 := hZ9 (HFt2.out A)
    clear hU hbU hb
    go_upto_region 6 with (fail)
    rw [← HU.out]
    go_wp2_with fail
    clear x0 x1 x2 x3 u3
    go_loopw [26] (fun i wr => ∃ (j : Nat) (Q : List (Int × Int)), j ≤ A.length ∧ i = .int .i64 j ∧ RowKit.Hid (Q = O ++ (A.take j).flatMap (walkC a t)) ∧ PeBox W.heap.size W.heap.size Q wr ∧ Below W.heap.size W wr) (fun i _ => A.length - (intOf i).toNat)
    case atStart => exact ⟨0, O, Nat.zero_le _, rfl, hZ9 (by simp), HboxU.out, HbU.out⟩
    case round =>
     obtain ⟨wi, rfl⟩ : ∃ wi : World, wi = wr := ⟨_, rfl⟩
     obtain ⟨j, Q, hj, rfl, HQ, hbox, hb⟩ := hrel
     have HboxI := hZ9 hbox
     have HbI := hZ9 hb
     by_cases hjt : j < A.length
     · have hj1 : (j : Int) < (A.length : Int) := by omega
       have hj0 : (0 : Int) ≤ (j : Int) := Int.natCast_nonneg _
       have HTj := hZ9 (HF2.out j hjt)
       have hql : Q.length + (walkC a t A[j]).length ≤ 2000 := by
        have h1 := HP2.out (j + 1)
        rw [HTj.out, List.length_append] at h1
        have h2 := congrArg List.length HQ.out
        rw [List.length_append] at h2
        have := HPk.out
        omega
       obtain ⟨a4, c4, e4, -, -, hx⟩ := HAc.out.below hb
       cases e4
       obtain ⟨b2, o2, rfl, hB2, hx⟩ := hx (by rintro rfl; cases hjt)
       obtain ⟨y0, y1⟩ := hx j hjt
       clear hx hbox
       generalize A[j] = p at *
       obtain ⟨Z, hZ⟩ : ∃ Z, Z = wi.alloc (Obj.cells #[.int .i64 p.1, .int .i64 p.2] 24) := ⟨_, rfl⟩
       have hbZ : Below wi.heap.size wi Z := by rw [hZ]; exact (Below.refl _ _).alloc (Nat.le_refl _) _
       have ZN := hZ9 (show Z.heap[wi.heap.size]? = some (Obj.cells #[.int .i64 p.1, .int .i64 p.2] 24) by rw [hZ]; exact heap_alloc_new _ _)
       have HbZ := hZ9 (hb.trans (hbZ.mono hb.size))
       have HCa := hZ9 (HCl.out p Q Z HbZ.out (HboxI.out.below hbZ) hql)
       have HZ := hZ9 hZ
       have z0 := cell_of_row Z _ 0 _ _ _ ZN.out
       have z1 := cell_of_row Z _ 1 _ _ _ ZN.out
       clear hZ hbZ hb hql
       go_upto_region 9 with (fail)
       rw [← HZ.out]
       go_wp2_with fail
       refine HCa.out.mono ?_
       rintro e w5 ⟨rfl, hbx5, hb5⟩
       have Hbx5 := hZ9 hbx5
       have Hb5 := hZ9 (HbZ.out.trans hb5)
       have HQ5 := hZ9 (show Q ++ walkC a t p = O ++ (A.take (j + 1)).flatMap (walkC a t) by rw [HTj.out, HQ.out, List.append_assoc])
       clear hbx5 hb5 y0 y1 z0 z1
       go_wp2
       exact ⟨⟨j + 1, _, by omega, by go_num, HQ5, Hbx5.out, Hb5.out⟩, by simp [intOf]; omega⟩
     have HF := hZ9 (HRel.out Q wi (by rw [HQ.out, List.take_of_length_le (by omega)]) hbox hb)
     clear hbox hb
     go_wp2
     exact ⟨HF.out, by simp [intOf]; omega⟩
  have HE := hZ9 (show O = X.flatMap (fun x => (actL x.h.1 x.h.2 l).flatMap (walkC a t)) by rw [HO.out, List.take_of_length_le (by omega)])
  have HRef := hZ9 (show CycsOk a AA t ((chooseL O [] true false).flatMap (cycOf a)) by rw [HE.out]; exact HRef.out)
  obtain ⟨aa, ca, hrow, hown⟩ := hbox.ex
  have c0 := cell_of_row wo _ 0 _ _ _ hrow
  have hOl : O.length ≤ 2000 := by rw [HE.out]; omega
  have HC1 := hZ9 (cover_calls _ O wo (PersAt.own hown) hOl)
  have HSp1 := hZ9 (HSp.out O)
  generalize chooseL O [] true false = C at *
  have HB1 := hZ9 (cycs_bound HRef.out)
  have R00 := hZ9 ((hb.block _ (by omega)).trans R0.out)
  clear hrow hown hb hbox
  go_wp2_with fail
  refine HC1.out.mono ?_
  rintro e w3 ⟨vC, rfl, hpC, hb3⟩
  obtain ⟨aC, cC, rfl, hC1, hC2⟩ := pers_shape hpC
  unfold maxLen at hC2
  have HpC := hZ9 hpC
  have Hb3 := hZ9 (Hb.out.trans (hb3.mono Hb.out.size))
  have R03 := hZ9 ((hb3.block _ (ltB9 R00.out)).trans R00.out)
  have HFc := hZ9 (flat_take (cycOf a) C)
  have HPc := hZ9 (flat_pre (cycOf a) C)
  have HCy := hZ9 (show ∀ p, p ∈ C → ∀ W, Calls Try.prog 24 #[.int .i64 a, .agg #[.int .i64 p.1, .int .i64 p.2]] W (PersTo W (cycOf a p)) from fun p hp W => by
   obtain ⟨s0, s1, s2⟩ := HSp1.out p hp
   exact cycles_calls a p.1 p.2 _ _ W Ha.out.1 Ha.out.2 ((validB_iff _ _).2 ⟨s0, s1, s2⟩) (moOf_is s0 (by omega)) (moOf_is (by omega) (by omega)))
  clear hpC hb3 c0 HSp1 HC1
  go_wp2_with fail
  go_loopw [13, 38] (fun vo i wr => ∃ (k : Nat) (Q : List (Int × Int)), k ≤ C.length ∧ i = .int .i64 k ∧ RowKit.Hid (Q = (C.take k).flatMap (cycOf a)) ∧ wr.ownsRow w3.heap.size 24 2 vo Q.length (Q.flatMap perCells) ∧ Below w3.heap.size w3 wr) (fun _ i _ => C.length - (intOf i).toNat)
  case atStart => exact ⟨0, [], Nat.zero_le _, rfl, hZ9 rfl, World.ownsRow_nil _ _ _ _, Below.refl _ _⟩
  case round =>
   obtain ⟨wq, rfl⟩ : ∃ wq : World, wq = wr := ⟨_, rfl⟩
   obtain ⟨i, Q, hi, rfl, HQ, hown, hb⟩ := hrel
   obtain ⟨aq, cq, rfl, hc1, hc2⟩ := own_shape hown
   unfold maxLen at hc2
   have Hown0 := hZ9 hown
   have Hb0 := hZ9 hb
   by_cases hit : i < C.length
   · have hi1 : (i : Int) < (C.length : Int) := by omega
     have hi0 : (0 : Int) ≤ (i : Int) := Int.natCast_nonneg _
     have HTi := hZ9 (HFc.out i hit)
     have hql : Q.length + (cycOf a C[i]).length ≤ 4801 := by
      have h1 := HPc.out (i + 1)
      rw [HTi.out, List.length_append, ← HQ.out] at h1
      exact Nat.le_trans h1 HB1.out
     have HCp := hZ9 (HCy.out C[i] (List.getElem_mem hit))
     obtain ⟨a3, c3, e3, -, -, hx⟩ := HpC.out.below hb
     cases e3
     obtain ⟨bb, o, rfl, hB, hx⟩ := hx (by rintro rfl; cases hit)
     obtain ⟨x0, x1⟩ := hx i hit
     have R0q := hZ9 ((hb.block _ (ltB9 R03.out)).trans R03.out)
     clear hx hown
     generalize C[i] = p at *
     generalize cycOf a p = Lq at *
     obtain ⟨Z, hZ⟩ : ∃ Z, Z = wq.alloc (Obj.cells #[.int .i64 p.1, .int .i64 p.2] 24) := ⟨_, rfl⟩
     have hbZ : Below wq.heap.size wq Z := by rw [hZ]; exact (Below.refl _ _).alloc (Nat.le_refl _) _
     have ZN := hZ9 (show Z.heap[wq.heap.size]? = some (Obj.cells #[.int .i64 p.1, .int .i64 p.2] 24) by rw [hZ]; exact heap_alloc_new _ _)
     have HbZ := hZ9 (hb.trans (hbZ.mono hb.size))
     have HownZ := hZ9 (ownsRow_below Hown0.out hbZ)
     have HZ := hZ9 hZ
     have z0 := cell_of_row Z _ 0 _ _ _ ZN.out
     have z1 := cell_of_row Z _ 1 _ _ _ ZN.out
     have n0 := cell_of_row Z _ 0 _ _ _ ((hbZ.block _ (ltB9 R0q.out)).trans R0q.out)
     clear hZ hbZ hb
     go_upto_region 16 with (fail)
     rw [← HZ.out]
     go_wp2_with fail
     refine (HCp.out Z).mono ?_
     rintro e w5 ⟨vL, rfl, hpL, hb5⟩
     have HRX := hZ9 (rec_of_pers hpL)
     have HownU := hZ9 (ownsRow_below HownZ.out hb5)
     have Hb5 := hZ9 (HbZ.out.trans (hb5.mono HbZ.out.size))
     have hbs := Hb5.out.size
     clear hpL hb5 x0 x1 z0 z1 n0
     go_wp2_with (at_builtin; refine append_pe rfl _ _ rfl w3.heap.size hbs _ _ Q Lq rfl rfl HownU.out HRX.out (by omega) ?_)
     intro R hR v7 w7 own7 hg7
     have HRe := hZ9 (show R = (C.take (i + 1)).flatMap (cycOf a) by rw [hR.out, HTi.out, ← HQ.out])
     have Own7 := hZ9 own7
     have Hb7 := hZ9 (Hb5.out.grown hg7 hbs (fun g hg => (ownsRow_block HownU.out g hg).1))
     clear own7 hg7 hR hbs
     go_wp2
     exact ⟨⟨i + 1, R, by omega, by go_num, HRe, Own7.out, Hb7.out⟩, by simp [intOf]; omega⟩
   have HE := hZ9 (show Q = C.flatMap (cycOf a) by rw [HQ.out, List.take_of_length_le (by omega)])
   have HbF := hZ9 (Hw0.out.trans ((Hb3.out.trans (hb.mono Hb3.out.size)).mono Hw0.out.size))
   clear hown hb
   go_wp2
   go_ret
   exact ⟨Q, by rw [HE.out]; exact HRef.out, _, rfl, PersAt.own Hown0.out, HbF.out⟩
end Go.Proofs.Ytngippiilgdnoaa
