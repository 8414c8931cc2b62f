/-
  The walk of combine: the program's sweep over the sorted changes of two lists.
-/
import Derived.Test.YtngippiilgdnoaaGreatMpal
namespace Go.Proofs.YtngippiilgdnoaaGreat
open Go.RowKit

theorem chg_mem (j : Int) (l : List (Int × Int)) : ∀ c ∈ chg j l, (0 ≤ c.1 ∧ c.1 ≤ 12622780800) ∧ c.2.1 = j ∧ (c.2.2 = 1 ∨ c.2.2 = -1) := by
  intro c hc
  unfold chg at hc
  obtain ⟨p, -, hp⟩ := List.mem_flatMap.1 hc
  by_cases hv : validB p.1 p.2 = true
  · have h0 := (validB_iff _ _).1 hv
    rw [if_pos hv] at hp
    simp at hp
    rcases hp with rfl | rfl
    · exact ⟨⟨h0.1, by dsimp only; omega⟩, rfl, Or.inl rfl⟩
    · exact ⟨⟨by dsimp only; omega, h0.2.2⟩, rfl, Or.inr rfl⟩
  · rw [if_neg hv] at hp
    cases hp
theorem chg_both (a b : List (Int × Int)) {S : List (Int × Int × Int)} (h : S.Perm (chg 0 a ++ chg 1 b)) : ∀ c ∈ S, (0 ≤ c.1 ∧ c.1 ≤ 12622780800) ∧ (c.2.1 = 0 ∨ c.2.1 = 1) ∧ (c.2.2 = 1 ∨ c.2.2 = -1) := by
  intro c hc
  rcases List.mem_append.1 (h.mem_iff.1 hc) with h1 | h1
  · have := chg_mem 0 a c h1; exact ⟨this.1, Or.inl this.2.1, this.2.2⟩
  · have := chg_mem 1 b c h1; exact ⟨this.1, Or.inr this.2.1, this.2.2⟩
theorem tot_small (j : Int) : ∀ (l : List (Int × Int × Int)), (∀ c ∈ l, c.2.2 = 1 ∨ c.2.2 = -1) → - (l.length : Int) ≤ totC j l ∧ totC j l ≤ (l.length : Int) := by
  intro l
  induction l with
  | nil => intro _; exact ⟨Int.le_refl _, Int.le_refl _⟩
  | cons c r ih =>
    intro h
    have h1 := ih fun d hd => h d (by simp [hd])
    have h2 := h c (by simp)
    show _ ≤ (if c.2.1 = j then c.2.2 else 0) + totC j r ∧ (if c.2.1 = j then c.2.2 else 0) + totC j r ≤ _
    simp only [List.length_cons]
    split <;> omega
theorem swOut_len (O : List (Int × Int)) (i n : Bool) (t : Int) : (swOut O i n t).length ≤ O.length + 1 := by
  unfold swOut
  split
  · simp
  · split
    · simp
    · omega
theorem sw_len (is : Bool → Bool → Bool) (S : List (Int × Int × Int)) : ∀ k, (swUpto is S k).2.2.length ≤ k := by
  intro k
  induction k with
  | zero => exact Nat.le_refl _
  | succ k ih =>
    show (swStep is S k (swUpto is S k)).2.2.length ≤ k + 1
    unfold swStep
    simp only []
    split
    · show (swUpto is S k).2.2.length ≤ _; omega
    · exact Nat.le_trans (swOut_len _ _ _ _) (by omega)
theorem sw_ne (is : Bool → Bool → Bool) (S : List (Int × Int × Int)) : ∀ k, (swUpto is S k).2.1 = true → (swUpto is S k).2.2 ≠ [] := by
  intro k
  induction k with
  | zero => intro h; cases h
  | succ k ih =>
    show (swStep is S k (swUpto is S k)).2.1 = true → (swStep is S k (swUpto is S k)).2.2 ≠ []
    unfold swStep
    simp only []
    split
    · exact ih
    · intro h
      rw [show is _ _ = true from h]
      unfold swOut
      cases hi : (swUpto is S k).2.1 with
      | false => simp
      | true => simpa [hi] using ih hi
theorem swOut_close (M : List (Int × Int)) (q1 q2 t : Int) : swOut (M ++ [(q1, q2)]) true false t = M ++ [(q1, t)] := by
  unfold swOut; simp
theorem swOut_open (O : List (Int × Int)) (t : Int) : swOut O false true t = O ++ [(t, 0)] := by
  unfold swOut; simp
theorem swOut_same (O : List (Int × Int)) (i : Bool) (t : Int) : swOut O i i t = O := by
  unfold swOut; cases i <;> simp
/-- The sort's contract. -/
def SortsCh : Prop := ∀ (B : Nat) (w : World) (v : Value) (N : List (Int × Int × Int)), w.ownsRow B 216 3 v N.length (N.flatMap chCells) → B ≤ w.heap.size → (∀ c ∈ N, 0 ≤ c.1 ∧ c.1 ≤ 12622780800) → N.length ≤ 8000 →
    Calls Tryz.prog 161 #[v, .func (.func 162) #[] #[]] w (SortedTo B N v w)

set_option maxRecDepth 100000 in
set_option maxHeartbeats 6400000 in
theorem combine_calls (HS : SortsCh) (va vb : Value) (a b : List (Int × Int)) (ig inb : Bool) (g : Nat) (is : Bool → Bool → Bool) (w : World) (ha : PersAt w va a) (hb0 : PersAt w vb b) (hn : a.length + b.length ≤ 2000)
    (eg : ∀ args w, (callFunc g args).run Tryz.prog w = .ok (.enter g args) w) (hg : ∀ x y W, Calls Tryz.prog g #[.bool x, .bool y] W fun e w' => e = .returned (.bool (is x y)) ∧ Below W.heap.size W w') (h00 : is false false = false) (hi : ∀ x y, is x y = (x && (ig || (y == inb)))) :
    Calls Tryz.prog 125 #[va, vb, .func (.func g) #[] #[]] w (PersTo w (chooseL a b ig inb)) := by
  obtain ⟨W, hW⟩ : ∃ W, W = w.alloc (Obj.cells #[.slice none 0 0] 214) := ⟨_, rfl⟩
  have hV0 : VarAt w [] W := by
    have r : W.heap[w.heap.size]? = some (Obj.cells #[.slice none 0 0] 214) := by rw [hW]; exact heap_alloc_new _ _
    refine ⟨by rw [hW]; exact (Below.refl _ _).alloc (Nat.le_refl _) _, by rw [hW]; simp, .slice none 0 0, cell_of_row W _ 0 _ _ _ r, by simp [World.frozen?, r], ⟨rfl, Or.inl ⟨rfl, rfl⟩⟩⟩
  have hla := chg_len 0 a
  have hlb := chg_len 1 b
  have HA := Lib.hid (gather_calls w W va a 0 [] ha (by simp; omega) hV0)
  have hlen : (chg 0 a ++ chg 1 b).length ≤ 4000 := by rw [List.length_append]; omega
  have HB := Lib.hid (fun w2 (h : VarAt w (chg 0 a) w2) => gather_calls w w2 vb b 1 (chg 0 a) hb0 (by omega) h)
  have HC := Lib.hid (fun (S : List (Int × Int × Int)) (hp : S.Perm (chg 0 a ++ chg 1 b)) hs => swept_choose is S a b ig inb h00 hp hs hi)
  have HM := Lib.hid (fun (S : List (Int × Int × Int)) (hp : S.Perm (chg 0 a ++ chg 1 b)) => chg_both a b hp)
  have HW := Lib.hid hW
  have HSo := Lib.hid HS
  have Hg := Lib.hid hg
  generalize chg 0 a ++ chg 1 b = N at *
  obtain ⟨aa, ca, rfl, -⟩ := ha
  obtain ⟨ab, cb, rfl, -⟩ := hb0
  have hmf : ∀ (fn : Fn) (first cap : Array Value) (w : World), (Instr.makeFunc fn first cap).run Tryz.prog w = .ok (.func fn first cap) w := fun _ _ _ _ => rfl
  clear hW HS hg h00 hi hV0 hla hlb
  go_enter Tryz.func125, Tryz.ntmps125
  go_wp2_with fail
  rw [← HW.out]
  refine HA.out.mono ?_
  rintro e w1 ⟨rfl, hv1⟩
  rw [List.nil_append] at hv1
  have HB1 := Lib.hid (HB.out w1 hv1)
  clear hv1
  go_wp2_with fail
  refine HB1.out.mono ?_
  rintro e w2 ⟨rfl, hv2⟩
  obtain ⟨hb2, hcw2, v, hcell2, hfr2, hown2⟩ := hv2
  have Hso2 := Lib.hid (HSo.out (w.heap.size + 1) w2 v N hown2 hcw2 (fun c hc => (HM.out _ (List.Perm.refl _) c hc).1) (by omega))
  obtain ⟨av, cv, rfl, hcv, -⟩ := own_shape hown2
  have Hb2 := Lib.hid hb2
  have Hcell2 := Lib.hid hcell2
  clear hown2 hfr2
  go_wp2_with fail
  refine Hso2.out.mono ?_
  rintro e w3 ⟨rfl, hb3, S, s1, s2, s3, s4⟩
  have hcell3 : w3.cell? ⟨w.heap.size, 0, none⟩ = some (.slice av N.length cv) := (hb3.cell (p := ⟨w.heap.size, 0, none⟩) (by simp)).trans Hcell2.out
  have hbw3 : Below w.heap.size w w3 := Hb2.out.trans (hb3.mono (by omega))
  have hcw3 : w.heap.size < w3.heap.size := Nat.lt_of_lt_of_le hcw2 hb3.size
  have HE := Lib.hid (HC.out S s1 s2)
  have HS1 := Lib.hid (HM.out S s1)
  clear hcell2 hcw2 Hb2 Hcell2 hb3 s1 s2
  obtain ⟨W5, hW5⟩ : ∃ X, X = w3.alloc (Obj.cells #[.int .i64 0, .int .i64 0] 220) := ⟨_, rfl⟩
  have r5 : W5.heap[w3.heap.size]? = some (Obj.cells #[.int .i64 0, .int .i64 0] 220) := by rw [hW5]; exact heap_alloc_new _ _
  have hz5 : W5.heap.size = w3.heap.size + 1 := by rw [hW5]; simp
  have hb5 : Below w3.heap.size w3 W5 := by rw [hW5]; exact (Below.refl _ _).alloc (Nat.le_refl _) _
  have hcell5 : W5.cell? ⟨w.heap.size, 0, none⟩ = some (.slice av N.length cv) := (hb5.cell (p := ⟨w.heap.size, 0, none⟩) hcw3).trans hcell3
  have HW5 := Lib.hid hW5
  have R5 := Lib.hid r5
  have Hcell3 := Lib.hid hcell3
  have HS4 := Lib.hid s4
  clear hW5 r5 s4
  rw [← s3] at hcell3 hcell5 HS4 Hcell3 ⊢
  rw [← s3] at hlen hcv
  clear s3
  go_upto_region 9 with (fail)
  rw [← HW5.out]
  clear hcell3
  go_wp2_with fail
  go_loopw [9, 11, 26] (fun v ib i wr => ∃ (k : Nat) (o1 o2 : Int) (ins : Bool) (O : List (Int × Int)), k ≤ S.length ∧ i = .int .i64 k ∧ ib = .bool ins ∧ swUpto is S k = ((o1, o2), ins, O) ∧ wr.cell? ⟨w3.heap.size, 0, none⟩ = some (.int .i64 o1) ∧ wr.cell? ⟨w3.heap.size, 1, none⟩ = some (.int .i64 o2) ∧ (∀ j, wr.frozen? ⟨w3.heap.size, j, none⟩ = false) ∧ w3.heap.size < wr.heap.size ∧ wr.ownsRow (w3.heap.size + 1) 25 2 v O.length (O.flatMap perCells) ∧ Below w3.heap.size w3 wr) (fun _ _ i _ => S.length - (intOf i).toNat)
  case atStart =>
    exact ⟨0, 0, 0, false, [], Nat.zero_le _, rfl, rfl, rfl, cell_of_row W5 _ 0 _ _ _ R5.out, cell_of_row W5 _ 1 _ _ _ R5.out, fun j => by simp [World.frozen?, R5.out], by omega, ⟨rfl, Or.inl ⟨rfl, rfl⟩⟩, hb5⟩
  case round =>
    obtain ⟨k, o1, o2, ins, O, hk, rfl, rfl, hsw, ho1, ho2, hof, hoz, hown, hb⟩ := hrel
    have Hown := Lib.hid hown
    have hOl := sw_len is S k
    have hOn := sw_ne is S k
    have hOo := sw_open is S (fun c hc => (HS1.out c hc).2.1) k hk
    have ht1 := tot_small 0 (S.take k) (fun c hc => (HS1.out c (List.mem_of_mem_take hc)).2.2)
    have ht2 := tot_small 1 (S.take k) (fun c hc => (HS1.out c (List.mem_of_mem_take hc)).2.2)
    rw [hsw] at hOl hOn hOo
    rw [List.length_take, Nat.min_eq_left hk] at ht1 ht2
    simp only [Prod.mk.injEq] at hOo
    rw [← hOo.1] at ht1
    rw [← hOo.2] at ht2
    have hOl : O.length ≤ k := hOl
    have HOn := Lib.hid (show ins = true → O ≠ [] from hOn)
    clear hOo hOn
    obtain ⟨vo, co, rfl, hco, -⟩ := own_shape hown
    clear hown
    by_cases hlt : k < S.length
    · have hc2 := HS1.out S[k] (List.getElem_mem hlt)
      have Hnx := Lib.hid (show ∀ w', Below w3.heap.size w3 w' → ∃ bq oq, av = some ⟨bq, oq, none⟩ ∧ bq < w3.heap.size ∧ ∀ i (hi : i < S.length), ChR w' bq (oq + i * 3) S[i] from fun w' hw => by
        obtain ⟨av3, cap3, e3, -, -, hy⟩ := HS4.out
        cases e3
        obtain ⟨b3, o3, e4, hB3, hy⟩ := hy (by rintro rfl; cases hlt)
        exact ⟨b3, o3, e4, hB3, fun i hi => ChR.stays _ _ _ _ _ hw hB3 (hy i hi)⟩)
      obtain ⟨bq, oq, rfl, hBq, hx⟩ := Hnx.out wr hb
      have Hrow := Lib.hid (show ∀ w', Below w3.heap.size w3 w' → ∀ i (hi : i < S.length), ChR w' bq (oq + i * 3) S[i] from fun w' hw => by
        obtain ⟨b3, o3, e4, -, h1⟩ := Hnx.out w' hw
        cases e4
        exact h1)
      obtain ⟨d0, d1, d2⟩ := hx k hlt
      have HU := Lib.hid (show swUpto is S (k + 1) = swStep is S k (swUpto is S k) from rfl)
      have HG := Lib.hid (show S.getD k (0, 0, 0) = S[k] by simp [List.getD, hlt])
      clear Hnx hx
      generalize S[k] = c at *
      obtain ⟨c1, c2, c3⟩ := c
      obtain ⟨jn, hjn, hjb, oj, hoj⟩ : ∃ jn : Nat, c2 = (jn : Int) ∧ jn < 2 ∧ ∃ oj, (oj = if jn = 0 then o1 else o2) := by
        rcases hc2.2.1 with h | h
        · exact ⟨0, h, by omega, _, rfl⟩
        · exact ⟨1, h, by omega, _, rfl⟩
      dsimp only at d0 d1 d2 hc2
      subst hjn
      have hc3 := hc2.2.2
      clear hc2
      obtain ⟨X, hX⟩ : ∃ X, X = wr.alloc (Obj.cells #[.int .i64 c1, .int .i64 jn, .int .i64 c3] 216) := ⟨_, rfl⟩
      have rX : X.heap[wr.heap.size]? = some (Obj.cells #[.int .i64 c1, .int .i64 jn, .int .i64 c3] 216) := by rw [hX]; exact heap_alloc_new _ _
      have hbX : Below wr.heap.size wr X := by rw [hX]; exact (Below.refl _ _).alloc (Nat.le_refl _) _
      have HX := Lib.hid hX
      have RX := Lib.hid rX
      have hzX : X.heap.size = wr.heap.size + 1 := by rw [hX]; simp
      clear hX rX
      have hk0 : (0 : Int) ≤ (k : Int) := Int.natCast_nonneg _
      have hk1 : (k : Int) < (S.length : Int) := by omega
      have Ho := Lib.hid (And.intro ho1 (And.intro ho2 hof))
      clear ho1 ho2 hof
      go_upto_region 12 with (fail)
      rw [← HX.out]
      have hbX3 := hb.trans (hbX.mono hb.size)
      have n0 : X.cell? ⟨wr.heap.size, 0, none⟩ = some (.int .i64 c1) := cell_of_row X _ 0 _ _ _ RX.out
      have n1 : X.cell? ⟨wr.heap.size, 1, none⟩ = some (.int .i64 jn) := cell_of_row X _ 1 _ _ _ RX.out
      have n2 : X.cell? ⟨wr.heap.size, 2, none⟩ = some (.int .i64 c3) := cell_of_row X _ 2 _ _ _ RX.out
      have Hm := Lib.hid (show X.cell? ⟨w3.heap.size, 0, none⟩ = some (.int .i64 o1) ∧ X.cell? ⟨w3.heap.size, 1, none⟩ = some (.int .i64 o2) ∧ ∀ j, X.frozen? ⟨w3.heap.size, j, none⟩ = false from
        ⟨(hbX.cell (p := ⟨w3.heap.size, 0, none⟩) hoz).trans Ho.out.1, (hbX.cell (p := ⟨w3.heap.size, 1, none⟩) hoz).trans Ho.out.2.1, fun j => (hbX.frozen (p := ⟨w3.heap.size, j, none⟩) hoz).trans (Ho.out.2.2 j)⟩)
      have m1 : X.cell? ⟨w3.heap.size, jn, none⟩ = some (.int .i64 oj) := by
        rcases (show jn = 0 ∨ jn = 1 by omega) with h | h
        · subst h; rw [hoj, if_pos rfl]; exact Hm.out.1
        · subst h; rw [hoj, if_neg (by decide)]; exact Hm.out.2.1
      have f1 := Hm.out.2.2 jn
      have hoj2 : -4000 ≤ oj ∧ oj ≤ 4000 := by rw [hoj]; split <;> omega
      have Hoj := Lib.hid hoj
      have hwp : IntKind.i64.wrap (oj + c3) = oj + c3 := IntWalk.i64_in _ (by omega)
      have hj0 : (0 : Int) ≤ (jn : Int) := Int.natCast_nonneg _
      have hj1 : (jn : Int) < 2 := by omega
      have hne : ¬ w3.heap.size = wr.heap.size := by omega
      have hne2 : ¬ wr.heap.size = w3.heap.size := by omega
      clear hoj d0 d1 d2
      go_big_region
      obtain ⟨Y, hY⟩ : ∃ Y, Y = (X.setCell ⟨w3.heap.size, jn, none⟩ (Value.int IntKind.i64 (oj + c3))).drew := ⟨_, rfl⟩
      obtain ⟨p1, p2, hp⟩ : ∃ p1 p2, bump (o1, o2) (c1, (jn : Int), c3) = (p1, p2) := ⟨_, _, rfl⟩
      have hbY : Below w3.heap.size w3 Y := by rw [hY]; exact (hbX3.setCell (Nat.le_refl _) _).drew
      have HYc := Lib.hid (show Y.cell? ⟨w3.heap.size, 0, none⟩ = some (.int .i64 p1) ∧ Y.cell? ⟨w3.heap.size, 1, none⟩ = some (.int .i64 p2) ∧ ∀ j, Y.frozen? ⟨w3.heap.size, j, none⟩ = false by
        rw [hY]
        have hoj := Hoj.out
        rcases (show jn = 0 ∨ jn = 1 by omega) with h | h
        · subst h
          rw [if_pos rfl] at hoj
          rw [show bump (o1, o2) (c1, ((0 : Nat) : Int), c3) = (o1 + c3, o2) from rfl] at hp
          cases hp
          rw [hoj]
          exact ⟨World.cell?_setCell_same _ _ _ Hm.out.1, (World.cell?_setCell_other _ _ _ _ (by intro h; cases h)).trans Hm.out.2.1, fun j => (World.frozen?_setCell _ _ _ _).trans (Hm.out.2.2 j)⟩
        · subst h
          rw [if_neg (by decide)] at hoj
          rw [show bump (o1, o2) (c1, ((1 : Nat) : Int), c3) = (o1, o2 + c3) from rfl] at hp
          cases hp
          rw [hoj]
          exact ⟨(World.cell?_setCell_other _ _ _ _ (by intro h; cases h)).trans Hm.out.1, World.cell?_setCell_same _ _ _ Hm.out.2.1, fun j => (World.frozen?_setCell _ _ _ _).trans (Hm.out.2.2 j)⟩)
      have HYn := Lib.hid (show Y.cell? ⟨wr.heap.size, 0, none⟩ = some (.int .i64 c1) by rw [hY]; exact (World.cell?_setCell_other _ _ _ _ (by intro h; exact hne (congrArg Addr.block h))).trans n0)
      have HOY := Lib.hid (show Y.ownsRow (w3.heap.size + 1) 25 2 (.slice vo O.length co) O.length (O.flatMap perCells) by
        rw [hY]
        refine ownsRow_keep (ownsRow_below Hown.out hbX) fun g hg => ?_
        exact Below.heap_setCell _ _ _ _ (by have := (ownsRow_block Hown.out g hg).1; simp; omega))
      have hzY : wr.heap.size < Y.heap.size := by rw [hY]; simp; omega
      rw [← hY]
      have HU2 := Lib.hid (show swUpto is S (k + 1) = if k + 1 < S.length ∧ (S.getD (k + 1) (0, 0, 0)).1 = c1 then ((p1, p2), ins, O) else ((p1, p2), is (decide (0 < p1)) (decide (0 < p2)), swOut O ins (is (decide (0 < p1)) (decide (0 < p2))) c1) by
        rw [HU.out, hsw]
        unfold swStep
        rw [HG.out]
        simp only []
        rw [hp])
      clear hY hp n0 n1 n2 m1 f1 hwp hj0 hj1 hoj2
      have g0 : Y.cell? ⟨w.heap.size, 0, none⟩ = some (.slice (some ⟨bq, oq, none⟩) S.length cv) := (hbY.cell (p := ⟨w.heap.size, 0, none⟩) hcw3).trans Hcell3.out
      have n0 := HYn.out
      have hkw : IntKind.i64.wrap ((k : Int) + 1) = (k : Int) + 1 := IntWalk.i64_in _ (by omega)
      have hk2 : (0 : Int) ≤ (k : Int) + 1 := by omega
      have hk3 : ((k : Int) + 1).toNat = k + 1 := by omega
      by_cases hnx : k + 1 < S.length
      · have hk4 : (k : Int) + 1 < (S.length : Int) := by omega
        have hk5 : decide ((k : Int) + 1 < (S.length : Int)) = true := decide_eq_true hk4
        have e0 := (Hrow.out Y hbY (k + 1) hnx).1
        have HG2 := Lib.hid (show S.getD (k + 1) (0, 0, 0) = S[k + 1] by simp [List.getD, hnx])
        generalize S[k + 1] = d at *
        obtain ⟨d1, d2, d3⟩ := d
        dsimp only at e0
        by_cases hq : d1 = c1
        · have hq2 : (d1 == c1) = true := by rw [hq]; exact beq_self_eq_true _
          have HE2 := Lib.hid (show swUpto is S (k + 1) = ((p1, p2), ins, O) by rw [HU2.out, HG2.out, if_pos ⟨hnx, hq⟩])
          clear hq
          go_upto_region 13 with (fail)
          go_big_quiet (fail)
          go_upto_region 20 with (fail)
          obtain ⟨V, hV⟩ : ∃ V, V = Y.drewN nq := ⟨_, rfl⟩
          have hbV : Below Y.heap.size Y V := by rw [hV]; exact below_drewN2 (Below.refl _ _) _
          rw [← hV]
          clear hV g0 n0 e0
          have hzV := hbV.size
          go_wp2
          exact ⟨⟨k + 1, p1, p2, ins, O, by omega, by go_num, rfl, HE2.out, (hbV.cell (p := ⟨w3.heap.size, 0, none⟩) (by simp; omega)).trans HYc.out.1, (hbV.cell (p := ⟨w3.heap.size, 1, none⟩) (by simp; omega)).trans HYc.out.2.1, fun j => (hbV.frozen (p := ⟨w3.heap.size, j, none⟩) (by simp; omega)).trans (HYc.out.2.2 j), by omega, ownsRow_below HOY.out hbV, hbY.trans (hbV.mono hbY.size)⟩, by simp [intOf]; omega⟩
        · have hq2 : (d1 == c1) = false := beq_eq_false_iff_ne.2 hq
          have HS2 := Lib.hid (show swUpto is S (k + 1) = ((p1, p2), is (decide (0 < p1)) (decide (0 < p2)), swOut O ins (is (decide (0 < p1)) (decide (0 < p2))) c1) by rw [HU2.out, HG2.out, if_neg (fun h => hq h.2)])
          clear hq
          obtain ⟨now, hnow⟩ : ∃ now, now = is (decide (0 < p1)) (decide (0 < p2)) := ⟨_, rfl⟩
          have Hgs := Lib.hid (show ∀ W, Calls Tryz.prog g #[.bool (decide (0 < p1)), .bool (decide (0 < p2))] W fun e w' => e = .returned (.bool now) ∧ Below W.heap.size W w' from fun W => by rw [hnow]; exact Hg.out _ _ W)
          have HN := Lib.hid (show swUpto is S (k + 1) = ((p1, p2), now, swOut O ins now c1) by rw [HS2.out, hnow])
          clear hnow
          have y0 := HYc.out.1
          have y1 := HYc.out.2.1
          go_upto_region 13 with (fail)
          go_big_quiet (fail)
          go_upto_region 14 with (fail)
          obtain ⟨V, hV⟩ : ∃ V, V = Y.drewN nq := ⟨_, rfl⟩
          have hbV : Below Y.heap.size Y V := by rw [hV]; exact below_drewN2 (Below.refl _ _) _
          rw [← hV]
          clear hV g0 n0 y0 y1
          have y0 := (hbV.cell (p := ⟨w3.heap.size, 0, none⟩) (by simp; omega)).trans HYc.out.1
          have y1 := (hbV.cell (p := ⟨w3.heap.size, 1, none⟩) (by simp; omega)).trans HYc.out.2.1
          go_wp2_with fail
          refine (Hgs.out V).mono ?_
          rintro e w6 ⟨rfl, hb6⟩
          have hbY6 := hbV.trans (hb6.mono hbV.size)
          have hb6w := hbY.trans (hbY6.mono hbY.size)
          have n0 := (hbY6.cell (p := ⟨wr.heap.size, 0, none⟩) (by simp; omega)).trans HYn.out
          have HO6 := Lib.hid (ownsRow_below HOY.out hbY6)
          have HY6 := Lib.hid (show w6.cell? ⟨w3.heap.size, 0, none⟩ = some (.int .i64 p1) ∧ w6.cell? ⟨w3.heap.size, 1, none⟩ = some (.int .i64 p2) ∧ ∀ j, w6.frozen? ⟨w3.heap.size, j, none⟩ = false from
            ⟨(hbY6.cell (p := ⟨w3.heap.size, 0, none⟩) (by simp; omega)).trans HYc.out.1, (hbY6.cell (p := ⟨w3.heap.size, 1, none⟩) (by simp; omega)).trans HYc.out.2.1, fun j => (hbY6.frozen (p := ⟨w3.heap.size, j, none⟩) (by simp; omega)).trans (HYc.out.2.2 j)⟩)
          have hz6 := hbY6.size
          clear y0 y1
          cases now with
          | true =>
            cases ins with
            | true =>
              have HE2 := Lib.hid (show swUpto is S (k + 1) = ((p1, p2), true, O) by rw [HN.out, swOut_same])
              go_wp2
              exact ⟨⟨k + 1, p1, p2, true, O, by omega, by go_num, rfl, HE2.out, HY6.out.1, HY6.out.2.1, HY6.out.2.2, by omega, HO6.out, hb6w⟩, by simp [intOf]; omega⟩
            | false =>
              have HE2 := Lib.hid (show swUpto is S (k + 1) = ((p1, p2), true, O ++ [(c1, 0)]) by rw [HN.out, swOut_open])
              have hc6 : ¬ w3.heap.size = w6.heap.size := by omega
              have Hbl := Lib.hid (fun g hg => ownsRow_block HO6.out g hg)
              obtain ⟨i0, hi, hz0, hz1, hz2⟩ := info_parts Tryz.perInfo
              have Hi := Lib.hid (And.intro hi (And.intro hz0 (And.intro hz1 hz2)))
              clear hi hz0 hz1 hz2
              go_wp2_with (at_builtin; refine wpList_append_own _ rfl _ _ 85 rfl (w3.heap.size + 1) 25 i0 _ 2 16 Tryz.underlying85 Hi.out.1 Hi.out.2.1 Hi.out.2.2.1 Hi.out.2.2.2 rfl (by decide) _ _ _ rfl (HO6.out.alloc _) ⟨w6.heap.size, 0, none⟩ 1 1 [.int .i64 c1, .int .i64 0] rfl rfl (World.news_of_block (cs := #[.int .i64 c1, .int .i64 0]) (t := 25) (fr := (0, 0)) (heap_alloc_new _ _)) ?aq2 ?aq3 ?aq4 ?aq5 ?_)
              case aq2 => simp [Value.oneCell']
              case aq3 => unfold maxLen; omega
              case aq4 => omega
              case aq5 => (try simp); omega
              intro v_w2 w7 hown_w7 hgrow _
              have hb7 : Below (w3.heap.size + 1) w6 w7 := ((Below.refl (w3.heap.size + 1) w6).alloc (by omega) _).grown hgrow (by simp; omega) (fun g hg => (Hbl.out g hg).1)
              have Hown7 := Lib.hid hown_w7
              clear hown_w7 hgrow
              have hz7 := hb7.size
              obtain ⟨ao7, co7, rfl, -, -⟩ := own_shape Hown7.out
              go_wp2
              refine ⟨⟨k + 1, p1, p2, true, O ++ [(c1, 0)], by omega, by go_num, rfl, HE2.out, (hb7.cell (p := ⟨w3.heap.size, 0, none⟩) (by simp)).trans HY6.out.1, (hb7.cell (p := ⟨w3.heap.size, 1, none⟩) (by simp)).trans HY6.out.2.1, fun j => (hb7.frozen (p := ⟨w3.heap.size, j, none⟩) (by simp)).trans (HY6.out.2.2 j), by omega, ?_, hb6w.trans (hb7.mono (by omega))⟩, by simp [intOf]; omega⟩
              rw [List.flatMap_append, List.length_append]
              exact Hown7.out
          | false =>
            cases ins with
            | false =>
              have HE2 := Lib.hid (show swUpto is S (k + 1) = ((p1, p2), false, O) by rw [HN.out, swOut_same])
              go_wp2
              exact ⟨⟨k + 1, p1, p2, false, O, by omega, by go_num, rfl, HE2.out, HY6.out.1, HY6.out.2.1, HY6.out.2.2, by omega, HO6.out, hb6w⟩, by simp [intOf]; omega⟩
            | true =>
              obtain ⟨M, q, rfl⟩ : ∃ M q, O = M ++ [q] := ⟨_, _, (List.dropLast_concat_getLast (HOn.out rfl)).symm⟩
              obtain ⟨q1, q2⟩ := q
              have HE2 := Lib.hid (show swUpto is S (k + 1) = ((p1, p2), false, M ++ [(q1, c1)]) by rw [HN.out, swOut_close])
              obtain ⟨g0, cg, hvv, hgB, hgl, hcell⟩ : ∃ g cap, (Value.slice vo (M ++ [(q1, q2)]).length co) = .slice (some ⟨g, 0, none⟩) (M ++ [(q1, q2)]).length cap ∧ w3.heap.size + 1 ≤ g ∧ g < w6.heap.size ∧ w6.cell? ⟨g, M.length * 2 + 1, none⟩ = some (.int .i64 q2) := by
                have h0 := HO6.out
                rcases h0.2 with ⟨-, h1⟩ | ⟨g, cap, cur, hv, hB, hh, -⟩
                · simp at h1
                · rw [hv] at h0
                  refine ⟨g, cap, hv, hB, (Array.getElem?_eq_some_iff.1 hh).1, ?_⟩
                  rw [h0.cellAt (M.length * 2 + 1) (by simp; omega), List.flatMap_append, List.getElem?_append_right (by rw [flat_length perCells 2 (fun _ => rfl)]; omega), flat_length perCells 2 (fun _ => rfl)]
                  simp [perCells]
              simp only [Value.slice.injEq] at hvv
              obtain ⟨rfl, -, rfl⟩ := hvv
              have hlenM : (M ++ [(q1, q2)]).length = M.length + 1 := by simp
              have HownM := Lib.hid (show w6.ownsRow (w3.heap.size + 1) 25 2 (.slice (some ⟨g0, 0, none⟩) (M.length + 1) co) (M.length + 1) ((M ++ [(q1, q2)]).flatMap perCells) by have h := HO6.out; rwa [hlenM] at h)
              have hco := hlenM ▸ hco
              have hOl := hlenM ▸ hOl
              rw [hlenM]
              have hj1 : IntKind.i64.wrap ((M.length : Int) + 1 - 1) = (M.length : Int) := by rw [Int.add_sub_cancel]; exact IntWalk.i64_in _ (by omega)
              have hj2 : (0 : Int) < (M.length : Int) + 1 := by omega
              have hj3 : ((M.length : Int) + 1).toNat = M.length + 1 := by omega
              have hj4 : IntKind.i64.wrap (M.length : Int) = (M.length : Int) := IntWalk.i64_in _ (by omega)
              have hj5 : (0 : Int) ≤ (M.length : Int) := Int.natCast_nonneg _
              have hj6 : (M.length : Int) < (M.length : Int) + 1 := by omega
              have e1 : w6.frozen? ⟨g0, M.length * 2 + 1, none⟩ = false := HownM.out.frozenAt _
              have hst := HownM.out.stored (M.length * 2 + 1) (.int .i64 c1)
              have Hst := Lib.hid hst.1
              clear hst hlenM
              go_wp2
              refine ⟨⟨k + 1, p1, p2, false, M ++ [(q1, c1)], by omega, by go_num, rfl, HE2.out, (World.cell?_setCell_other _ _ _ _ (by intro h; have h := congrArg Addr.block h; simp at h; omega)).trans HY6.out.1, (World.cell?_setCell_other _ _ _ _ (by intro h; have h := congrArg Addr.block h; simp at h; omega)).trans HY6.out.2.1, fun j => (World.frozen?_setCell _ _ _ _).trans (HY6.out.2.2 j), by simp; omega, ?_, hb6w.setCell (show w3.heap.size ≤ g0 by omega) _⟩, by simp [intOf]; omega⟩
              rw [List.length_append]
              have h := Hst.out
              rw [flat_set] at h
              exact h
      · have hk5 : decide ((k : Int) + 1 < (S.length : Int)) = false := decide_eq_false (by omega)
        have HS2 := Lib.hid (show swUpto is S (k + 1) = ((p1, p2), is (decide (0 < p1)) (decide (0 < p2)), swOut O ins (is (decide (0 < p1)) (decide (0 < p2))) c1) by rw [HU2.out, if_neg (fun h => hnx h.1)])
        obtain ⟨now, hnow⟩ : ∃ now, now = is (decide (0 < p1)) (decide (0 < p2)) := ⟨_, rfl⟩
        have Hgs := Lib.hid (show ∀ W, Calls Tryz.prog g #[.bool (decide (0 < p1)), .bool (decide (0 < p2))] W fun e w' => e = .returned (.bool now) ∧ Below W.heap.size W w' from fun W => by rw [hnow]; exact Hg.out _ _ W)
        have HN := Lib.hid (show swUpto is S (k + 1) = ((p1, p2), now, swOut O ins now c1) by rw [HS2.out, hnow])
        clear hnow
        have y0 := HYc.out.1
        have y1 := HYc.out.2.1
        go_upto_region 13 with (fail)
        go_big_quiet (fail)
        go_upto_region 14 with (fail)
        obtain ⟨V, hV⟩ : ∃ V, V = Y.drewN nq := ⟨_, rfl⟩
        have hbV : Below Y.heap.size Y V := by rw [hV]; exact below_drewN2 (Below.refl _ _) _
        rw [← hV]
        clear hV g0 n0 y0 y1
        have y0 := (hbV.cell (p := ⟨w3.heap.size, 0, none⟩) (by simp; omega)).trans HYc.out.1
        have y1 := (hbV.cell (p := ⟨w3.heap.size, 1, none⟩) (by simp; omega)).trans HYc.out.2.1
        go_wp2_with fail
        refine (Hgs.out V).mono ?_
        rintro e w6 ⟨rfl, hb6⟩
        have hbY6 := hbV.trans (hb6.mono hbV.size)
        have hb6w := hbY.trans (hbY6.mono hbY.size)
        have n0 := (hbY6.cell (p := ⟨wr.heap.size, 0, none⟩) (by simp; omega)).trans HYn.out
        have HO6 := Lib.hid (ownsRow_below HOY.out hbY6)
        have HY6 := Lib.hid (show w6.cell? ⟨w3.heap.size, 0, none⟩ = some (.int .i64 p1) ∧ w6.cell? ⟨w3.heap.size, 1, none⟩ = some (.int .i64 p2) ∧ ∀ j, w6.frozen? ⟨w3.heap.size, j, none⟩ = false from
          ⟨(hbY6.cell (p := ⟨w3.heap.size, 0, none⟩) (by simp; omega)).trans HYc.out.1, (hbY6.cell (p := ⟨w3.heap.size, 1, none⟩) (by simp; omega)).trans HYc.out.2.1, fun j => (hbY6.frozen (p := ⟨w3.heap.size, j, none⟩) (by simp; omega)).trans (HYc.out.2.2 j)⟩)
        have hz6 := hbY6.size
        clear y0 y1
        cases now with
        | true =>
          cases ins with
          | true =>
            have HE2 := Lib.hid (show swUpto is S (k + 1) = ((p1, p2), true, O) by rw [HN.out, swOut_same])
            go_wp2
            exact ⟨⟨k + 1, p1, p2, true, O, by omega, by go_num, rfl, HE2.out, HY6.out.1, HY6.out.2.1, HY6.out.2.2, by omega, HO6.out, hb6w⟩, by simp [intOf]; omega⟩
          | false =>
            have HE2 := Lib.hid (show swUpto is S (k + 1) = ((p1, p2), true, O ++ [(c1, 0)]) by rw [HN.out, swOut_open])
            have hc6 : ¬ w3.heap.size = w6.heap.size := by omega
            have Hbl := Lib.hid (fun g hg => ownsRow_block HO6.out g hg)
            obtain ⟨i0, hi, hz0, hz1, hz2⟩ := info_parts Tryz.perInfo
            have Hi := Lib.hid (And.intro hi (And.intro hz0 (And.intro hz1 hz2)))
            clear hi hz0 hz1 hz2
            go_wp2_with (at_builtin; refine wpList_append_own _ rfl _ _ 85 rfl (w3.heap.size + 1) 25 i0 _ 2 16 Tryz.underlying85 Hi.out.1 Hi.out.2.1 Hi.out.2.2.1 Hi.out.2.2.2 rfl (by decide) _ _ _ rfl (HO6.out.alloc _) ⟨w6.heap.size, 0, none⟩ 1 1 [.int .i64 c1, .int .i64 0] rfl rfl (World.news_of_block (cs := #[.int .i64 c1, .int .i64 0]) (t := 25) (fr := (0, 0)) (heap_alloc_new _ _)) ?aq2 ?aq3 ?aq4 ?aq5 ?_)
            case aq2 => simp [Value.oneCell']
            case aq3 => unfold maxLen; omega
            case aq4 => omega
            case aq5 => (try simp); omega
            intro v_w2 w7 hown_w7 hgrow _
            have hb7 : Below (w3.heap.size + 1) w6 w7 := ((Below.refl (w3.heap.size + 1) w6).alloc (by omega) _).grown hgrow (by simp; omega) (fun g hg => (Hbl.out g hg).1)
            have Hown7 := Lib.hid hown_w7
            clear hown_w7 hgrow
            have hz7 := hb7.size
            obtain ⟨ao7, co7, rfl, -, -⟩ := own_shape Hown7.out
            go_wp2
            refine ⟨⟨k + 1, p1, p2, true, O ++ [(c1, 0)], by omega, by go_num, rfl, HE2.out, (hb7.cell (p := ⟨w3.heap.size, 0, none⟩) (by simp)).trans HY6.out.1, (hb7.cell (p := ⟨w3.heap.size, 1, none⟩) (by simp)).trans HY6.out.2.1, fun j => (hb7.frozen (p := ⟨w3.heap.size, j, none⟩) (by simp)).trans (HY6.out.2.2 j), by omega, ?_, hb6w.trans (hb7.mono (by omega))⟩, by simp [intOf]; omega⟩
            rw [List.flatMap_append, List.length_append]
            exact Hown7.out
        | false =>
          cases ins with
          | false =>
            have HE2 := Lib.hid (show swUpto is S (k + 1) = ((p1, p2), false, O) by rw [HN.out, swOut_same])
            go_wp2
            exact ⟨⟨k + 1, p1, p2, false, O, by omega, by go_num, rfl, HE2.out, HY6.out.1, HY6.out.2.1, HY6.out.2.2, by omega, HO6.out, hb6w⟩, by simp [intOf]; omega⟩
          | true =>
            obtain ⟨M, q, rfl⟩ : ∃ M q, O = M ++ [q] := ⟨_, _, (List.dropLast_concat_getLast (HOn.out rfl)).symm⟩
            obtain ⟨q1, q2⟩ := q
            have HE2 := Lib.hid (show swUpto is S (k + 1) = ((p1, p2), false, M ++ [(q1, c1)]) by rw [HN.out, swOut_close])
            obtain ⟨g0, cg, hvv, hgB, hgl, hcell⟩ : ∃ g cap, (Value.slice vo (M ++ [(q1, q2)]).length co) = .slice (some ⟨g, 0, none⟩) (M ++ [(q1, q2)]).length cap ∧ w3.heap.size + 1 ≤ g ∧ g < w6.heap.size ∧ w6.cell? ⟨g, M.length * 2 + 1, none⟩ = some (.int .i64 q2) := by
              have h0 := HO6.out
              rcases h0.2 with ⟨-, h1⟩ | ⟨g, cap, cur, hv, hB, hh, -⟩
              · simp at h1
              · rw [hv] at h0
                refine ⟨g, cap, hv, hB, (Array.getElem?_eq_some_iff.1 hh).1, ?_⟩
                rw [h0.cellAt (M.length * 2 + 1) (by simp; omega), List.flatMap_append, List.getElem?_append_right (by rw [flat_length perCells 2 (fun _ => rfl)]; omega), flat_length perCells 2 (fun _ => rfl)]
                simp [perCells]
            simp only [Value.slice.injEq] at hvv
            obtain ⟨rfl, -, rfl⟩ := hvv
            have hlenM : (M ++ [(q1, q2)]).length = M.length + 1 := by simp
            have HownM := Lib.hid (show w6.ownsRow (w3.heap.size + 1) 25 2 (.slice (some ⟨g0, 0, none⟩) (M.length + 1) co) (M.length + 1) ((M ++ [(q1, q2)]).flatMap perCells) by have h := HO6.out; rwa [hlenM] at h)
            have hco := hlenM ▸ hco
            have hOl := hlenM ▸ hOl
            rw [hlenM]
            have hj1 : IntKind.i64.wrap ((M.length : Int) + 1 - 1) = (M.length : Int) := by rw [Int.add_sub_cancel]; exact IntWalk.i64_in _ (by omega)
            have hj2 : (0 : Int) < (M.length : Int) + 1 := by omega
            have hj3 : ((M.length : Int) + 1).toNat = M.length + 1 := by omega
            have hj4 : IntKind.i64.wrap (M.length : Int) = (M.length : Int) := IntWalk.i64_in _ (by omega)
            have hj5 : (0 : Int) ≤ (M.length : Int) := Int.natCast_nonneg _
            have hj6 : (M.length : Int) < (M.length : Int) + 1 := by omega
            have e1 : w6.frozen? ⟨g0, M.length * 2 + 1, none⟩ = false := HownM.out.frozenAt _
            have hst := HownM.out.stored (M.length * 2 + 1) (.int .i64 c1)
            have Hst := Lib.hid hst.1
            clear hst hlenM
            go_wp2
            refine ⟨⟨k + 1, p1, p2, false, M ++ [(q1, c1)], by omega, by go_num, rfl, HE2.out, (World.cell?_setCell_other _ _ _ _ (by intro h; have h := congrArg Addr.block h; simp at h; omega)).trans HY6.out.1, (World.cell?_setCell_other _ _ _ _ (by intro h; have h := congrArg Addr.block h; simp at h; omega)).trans HY6.out.2.1, fun j => (World.frozen?_setCell _ _ _ _).trans (HY6.out.2.2 j), by simp; omega, ?_, hb6w.setCell (show w3.heap.size ≤ g0 by omega) _⟩, by simp [intOf]; omega⟩
            rw [List.length_append]
            have h := Hst.out
            rw [flat_set] at h
            exact h
    · have hkk : k = S.length := by omega
      have HF := Lib.hid (show chooseL a b ig inb = O by rw [← HE.out, ← hkk, hsw])
      clear hkk hsw
      go_wp2
      go_ret
      rw [HF.out]
      exact ⟨_, rfl, PersAt.own Hown.out, hbw3.trans (hb.mono (by omega))⟩
end Go.Proofs.YtngippiilgdnoaaGreat
