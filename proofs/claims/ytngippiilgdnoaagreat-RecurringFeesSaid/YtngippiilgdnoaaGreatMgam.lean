/-
  The walk of the reference's choose: the canonical list of the instants that two sets of periods decide about.
-/
import Derived.Test.YtngippiilgdnoaaGreatMgaj
import Derived.Laws.OwnMore
import Derived.Deep.AppendLies
namespace Go.Proofs.YtngippiilgdnoaaGreat
open Go.RowKit

theorem Tryz.perInfo : (Tryz.prog.info? 25).map (fun i => (i.zero, i.size, i.bytes)) = some (some (.agg #[.int .i64 0, .int .i64 0]), 2, 16) := by kernel_rfl

/-- Is an instant chosen? -/
def selB (a b : List (Int × Int)) (ig inb : Bool) (x : Int) : Bool := inL a x && (ig || (inL b x == inb))
/-- One piece more. -/
def chStep (O : List (Int × Int)) (x y : Int) : List (Int × Int) :=
  match O.getLast? with
  | some q => if q.2 = x then O.dropLast ++ [(q.1, y)] else O ++ [(x, y)]
  | none => [(x, y)]
def chUpto (l : List Int) (sel : Int → Bool) : Nat → List (Int × Int)
  | 0 => []
  | k + 1 => if sel (l.getD k 0) = true then chStep (chUpto l sel k) (l.getD k 0) (l.getD (k + 1) 0) else chUpto l sel k
def chooseL (a b : List (Int × Int)) (ig inb : Bool) : List (Int × Int) :=
  chUpto (limitsL (limitsL [] a) b) (selB a b ig inb) ((limitsL (limitsL [] a) b).length - 1)

theorem chStep_nil (x y : Int) : chStep [] x y = [(x, y)] := rfl
theorem chStep_eq (M : List (Int × Int)) (q : Int × Int) (x y : Int) (h : q.2 = x) : chStep (M ++ [q]) x y = M ++ [(q.1, y)] := by
  unfold chStep; rw [List.getLast?_concat, List.dropLast_concat]; exact if_pos h
theorem chStep_ne (M : List (Int × Int)) (q : Int × Int) (x y : Int) (h : q.2 ≠ x) : chStep (M ++ [q]) x y = M ++ [q] ++ [(x, y)] := by
  unfold chStep; rw [List.getLast?_concat]; exact if_neg h
theorem chStep_len (O : List (Int × Int)) (x y : Int) : (chStep O x y).length ≤ O.length + 1 := by
  by_cases h : O = []
  · subst h; simp [chStep_nil]
  · obtain ⟨M, z, rfl⟩ : ∃ M z, O = M ++ [z] := ⟨_, _, (List.dropLast_concat_getLast h).symm⟩
    by_cases hz : z.2 = x
    · rw [chStep_eq M z x y hz]; simp
    · rw [chStep_ne M z x y hz]; simp
theorem chUpto_len (l : List Int) (sel : Int → Bool) (k : Nat) : (chUpto l sel k).length ≤ k := by
  induction k with
  | zero => exact Nat.le_refl _
  | succ k ih =>
    rw [chUpto]
    split
    · have := chStep_len (chUpto l sel k) (l.getD k 0) (l.getD (k + 1) 0); omega
    · omega

theorem flat_set (M : List (Int × Int)) (q1 q2 y : Int) : ((M ++ [(q1, q2)]).flatMap perCells).set (M.length * 2 + 1) (.int .i64 y) = (M ++ [(q1, y)]).flatMap perCells := by
  rw [List.flatMap_append, List.flatMap_append, List.set_append_right _ _ (by rw [flat_length perCells 2 (fun _ => rfl)]; omega), flat_length perCells 2 (fun _ => rfl)]
  congr 1
  rw [Nat.add_sub_cancel_left]
  rfl

theorem getD_at (l : List Int) (i : Nat) (d : Int) (h : i < l.length) : l.getD i d = l[i] := by simp [List.getD, h]

theorem below_drewN2 {B : Nat} {a w : World} (h : Below B a w) (n : Nat) : Below B a (w.drewN n) := ⟨h.os, h.tape, h.output, h.size, h.block⟩

def PersTo (w : World) (N : List (Int × Int)) (e : Ending) (w' : World) : Prop := ∃ v, e = .returned v ∧ PersAt w' v N ∧ Below w.heap.size w w'

set_option maxRecDepth 100000 in
set_option maxHeartbeats 12800000 in
theorem choose_calls (va vb : Value) (a b : List (Int × Int)) (ig inb : Bool) (w : World) (ha : PersAt w va a) (hb0 : PersAt w vb b) (hn : a.length + b.length ≤ 2000) :
    Calls Tryz.prog 104 #[va, vb, .bool ig, .bool inb] w (PersTo w (chooseL a b ig inb)) := by
  have H1 := Lib.hid (limits_calls (.slice none 0 0) va [] a w (SliceAt.nil w) ha (by simp; omega))
  have hl1 := limits_len [] a
  rw [List.length_nil, Nat.zero_add] at hl1
  have H2 := Lib.hid (fun v1 w1 (h1 : IcsAt w1 v1 (limitsL [] a)) (hb : Below w.heap.size w w1) => limits_calls v1 vb (limitsL [] a) b w1 h1 (hb0.below hb) (by omega))
  have hl2 := limits_len (limitsL [] a) b
  have HA := Lib.hid (fun x w1 (hb : Below w.heap.size w w1) => in_calls va a x w1 (ha.below hb))
  have HB := Lib.hid (fun x w1 (hb : Below w.heap.size w w1) => in_calls vb b x w1 (hb0.below hb))
  have HC := Lib.hid (show chooseL a b ig inb = chUpto (limitsL (limitsL [] a) b) (selB a b ig inb) ((limitsL (limitsL [] a) b).length - 1) from rfl)
  obtain ⟨aa, ca, rfl, -, -, -⟩ := ha
  obtain ⟨ab, cb, rfl, -, -, -⟩ := hb0
  go_enter Tryz.func104, Tryz.ntmps104
  go_wp2_with fail
  refine H1.out.mono ?_
  rintro e w1 ⟨v1, rfl, hi1, hb1⟩
  go_wp2_with fail
  refine (H2.out v1 w1 hi1 hb1).mono ?_
  rintro e w2 ⟨v2, rfl, hi2, hbx⟩
  have hb2 := hb1.trans (hbx.mono hb1.size)
  clear hi1 hb1 hbx H1 H2
  generalize limitsL (limitsL [] a) b = l at *
  have HI := Lib.hid hi2
  obtain ⟨al, cl, rfl, hlc, hcl, -⟩ := hi2
  have hl3 : l.length ≤ 5000 := by omega
  clear hl1 hl2 hcl
  have hz0 := hb2.size
  go_wp2_with fail
  go_loopw [10, 11] (fun v i wr => ∃ k : Nat, k ≤ l.length - 1 ∧ i = .int .i64 k ∧ wr.ownsRow w2.heap.size 25 2 v (chUpto l (selB a b ig inb) k).length ((chUpto l (selB a b ig inb) k).flatMap perCells) ∧ Below w2.heap.size w2 wr) (fun _ i _ => l.length - (intOf i).toNat)
  case atStart => exact ⟨0, Nat.zero_le _, rfl, ⟨rfl, Or.inl ⟨rfl, rfl⟩⟩, Below.refl _ _⟩
  case round =>
    obtain ⟨k, hk, rfl, hown, hb⟩ := hrel
    have hle := chUpto_len l (selB a b ig inb) k
    have hbz := hb.size
    have hbw := hb2.trans (hb.mono hz0)
    obtain ⟨ao, co, rfl, hco, -⟩ := own_shape hown
    have Hown := Lib.hid hown
    clear hown
    have hkw : IntKind.i64.wrap ((k : Int) + 1) = (k : Int) + 1 := IntWalk.i64_in _ (by omega)
    by_cases hlt : k + 1 < l.length
    · have Hxy := Lib.hid (show ∀ w', Below w2.heap.size w2 w' → ∃ bq oq, al = some ⟨bq, oq, none⟩ ∧ bq < w2.heap.size ∧ w'.cell? ⟨bq, oq + k, none⟩ = some (.int .i64 (l.getD k 0)) ∧ w'.cell? ⟨bq, oq + (k + 1), none⟩ = some (.int .i64 (l.getD (k + 1) 0)) from fun w' hw => by
        obtain ⟨av3, cap3, e3, -, -, hy⟩ := HI.out
        cases e3
        obtain ⟨b3, o3, e4, hB3, hy⟩ := hy (by rintro rfl; cases hlt)
        have h1 := IntC.stays _ _ _ _ _ hw hB3 (hy k (by omega))
        have h2 := IntC.stays _ _ _ _ _ hw hB3 (hy (k + 1) hlt)
        unfold IntC at h1 h2
        rw [Nat.mul_one] at h1 h2
        rw [getD_at l k 0 (by omega), getD_at l (k + 1) 0 hlt]
        exact ⟨b3, o3, e4, hB3, h1, h2⟩)
      have hU : chUpto l (selB a b ig inb) (k + 1) = if selB a b ig inb (l.getD k 0) = true then chStep (chUpto l (selB a b ig inb) k) (l.getD k 0) (l.getD (k + 1) 0) else chUpto l (selB a b ig inb) k := rfl
      generalize l.getD k 0 = x at *
      generalize l.getD (k + 1) 0 = y at *
      obtain ⟨bq, oq, rfl, hBq, c0, c1⟩ := Hxy.out wr hb
      have Hcell := Lib.hid (show ∀ w', Below w2.heap.size w2 w' → w'.cell? ⟨bq, oq + k, none⟩ = some (.int .i64 x) ∧ w'.cell? ⟨bq, oq + (k + 1), none⟩ = some (.int .i64 y) from fun w' hw => by
        obtain ⟨b3, o3, e4, -, h1, h2⟩ := Hxy.out w' hw
        cases e4
        exact ⟨h1, h2⟩)
      have hk0 : (0 : Int) ≤ (k : Int) := Int.natCast_nonneg _
      have hk1 : (k : Int) < (l.length : Int) := by omega
      have hk2 : (k : Int) + 1 < (l.length : Int) := by omega
      have hk3 : (0 : Int) ≤ (k : Int) + 1 := by omega
      have hk4 : ((k : Int) + 1).toNat = k + 1 := by omega
      have hk5 : decide ((k : Int) + 1 < (l.length : Int)) = true := decide_eq_true hk2
      have HU := Lib.hid hU
      have hsel : selB a b ig inb x = (inL a x && (ig || (inL b x == inb))) := rfl
      have HIa := Lib.hid (HA.out x wr hbw)
      generalize chUpto l (selB a b ig inb) k = O at *
      clear hU Hxy
      cases hA : inL a x with
      | false =>
        rw [hA] at HIa
        have HE := Lib.hid (show chUpto l (selB a b ig inb) (k + 1) = O by rw [HU.out, if_neg (by rw [hsel, hA]; simp)])
        clear hsel hA
        go_wp2_with fail
        refine HIa.out.mono ?_
        rintro e w3 ⟨rfl, hb3⟩
        have hb4 := hb.trans (hb3.mono hbz)
        go_wp2
        exact ⟨⟨k + 1, by omega, by go_num, by rw [HE.out]; exact ownsRow_below Hown.out hb3, hb4⟩, by simp [intOf]; omega⟩
      | true =>
        rw [hA] at HIa
        cases ig with
        | true =>
          have HE := Lib.hid (show chUpto l (selB a b true inb) (k + 1) = chStep O x y by rw [HU.out, if_pos (by rw [hsel, hA]; simp)])
          clear hsel hA
          have HownV := Lib.hid (fun (w' : World) (h : Below wr.heap.size wr w') => ownsRow_below Hown.out h)
          by_cases hO : O = []
          · subst hO
            have hl0 : ((0 : Nat) : Int) = 0 := rfl
            simp only [List.length_nil] at *
            go_wp2_with fail
            refine HIa.out.mono ?_
            rintro e w3 ⟨rfl, hb3⟩
            have hb4 := hb.trans (hb3.mono hbz)
            have HO2 := Lib.hid (HownV.out _ hb3)
            go_upto_region 8 with (fail)
            go_big_quiet (fail)
            go_upto_region 10 with (fail)
            obtain ⟨V, hV⟩ : ∃ V, V = w3.drewN nq := ⟨_, rfl⟩
            have hbV : Below w3.heap.size w3 V := by rw [hV]; exact below_drewN2 (Below.refl _ _) _
            rw [← hV]
            clear hV
            have hbwV := hb4.trans (hbV.mono hb4.size)
            have HO3 := Lib.hid (ownsRow_below HO2.out hbV)
            obtain ⟨i0, hi, hz1, hz2, hz3⟩ := info_parts Tryz.perInfo
            have Hi := Lib.hid (And.intro hi (And.intro hz1 (And.intro hz2 hz3)))
            clear hi hz1 hz2 hz3
            obtain ⟨m0, m1⟩ := Hcell.out V hbwV
            have hBV : bq < V.heap.size := Nat.lt_of_lt_of_le hBq hbwV.size
            have Hbl := Lib.hid (fun g hg => ownsRow_block HO3.out g hg)
            have Mk := Lib.hid (show ∀ w' : World, Below w2.heap.size w2 w' → w'.cell? ⟨bq, oq + k, none⟩ = some (.int .i64 x) ∧ w'.cell? ⟨bq, oq + (k + 1), none⟩ = some (.int .i64 y) from Hcell.out)
            go_region_held3 (fun w' : World => w'.cell? ⟨bq, oq + k, none⟩ = some (.int .i64 x) ∧ w'.cell? ⟨bq, oq + (k + 1), none⟩ = some (.int .i64 y))
              (first
                | exact Mk.out _ (by assumption)
                | exact Mk.out _ (Below.drew hbwV)
                | exact Mk.out _ (Below.alloc (Below.drew hbwV) (by have := hbwV.size; exact this) _)
                | exact Mk.out _ (Below.drew (Below.alloc hbwV hbwV.size _)))
              ((refine step_append_lies _ (by rfl) _ _ _ (by rfl) w2.heap.size 25 i0 _ 2 16 Tryz.underlying85 Hi.out.1 Hi.out.2.1 Hi.out.2.2.1 Hi.out.2.2.2 rfl (by omega) (Value.slice ao 0 co) 0 [] (by rfl) ((HO3.out.alloc _).drew) ⟨V.heap.size, 0, none⟩ 1 1 [.int .i64 x, .int .i64 y] (by rfl) (by rfl) (World.news_of_block (cs := #[.int .i64 x, .int .i64 y]) (t := 25) (fr := (0, 0)) (heap_alloc_new V _)) (by simp [Value.oneCell']) (by omega) (by unfold maxLen; omega) (by omega) (by have := hbwV.size; simp; omega) (V.heap.size + 1) (by simp) ?_; intro gg capg w8 hown8 hgrow8 hat8 hlt8
                have hY8 : Below w2.heap.size w2 w8 := (Below.drew (Below.alloc hbwV hbwV.size _)).grown hgrow8 (by have := hbwV.size; simp; omega) (fun g hg => (Hbl.out g hg).1)))
            go_wp2
            refine ⟨⟨k + 1, by omega, by go_num, ?_, hY8⟩, by simp [intOf]; omega⟩
            rw [HE.out, chStep_nil, ← List.nil_append [(x, y)], List.length_append, List.flatMap_append]
            exact hown8
          · obtain ⟨M, q, rfl⟩ : ∃ M q, O = M ++ [q] := ⟨_, _, (List.dropLast_concat_getLast hO).symm⟩
            obtain ⟨q1, q2⟩ := q
            clear hO
            obtain ⟨g0, cg, hvv, hgB, hgl, hcell⟩ : ∃ g cap, (Value.slice ao (M ++ [(q1, q2)]).length co) = .slice (some ⟨g, 0, none⟩) (M ++ [(q1, q2)]).length cap ∧ w2.heap.size ≤ g ∧ g < wr.heap.size ∧ wr.cell? ⟨g, M.length * 2 + 1, none⟩ = some (.int .i64 q2) := by
              have h0 := Hown.out
              rcases h0.2 with ⟨-, h1⟩ | ⟨g, cap, cur, hv, hB, hh, -⟩
              · simp at h1
              · rw [hv] at h0
                refine ⟨g, cap, hv, hB, (Array.getElem?_eq_some_iff.1 hh).1, ?_⟩
                rw [h0.cellAt (M.length * 2 + 1) (by simp; omega), List.flatMap_append, List.getElem?_append_right (by rw [flat_length perCells 2 (fun _ => rfl)]; omega), flat_length perCells 2 (fun _ => rfl)]
                simp [perCells]
            simp only [Value.slice.injEq] at hvv
            obtain ⟨rfl, -, rfl⟩ := hvv
            have hlenM : (M ++ [(q1, q2)]).length = M.length + 1 := by simp
            have HownM := Lib.hid (show wr.ownsRow w2.heap.size 25 2 (.slice (some ⟨g0, 0, none⟩) (M.length + 1) co) (M.length + 1) ((M ++ [(q1, q2)]).flatMap perCells) by have h := Hown.out; rwa [hlenM] at h)
            rw [hlenM] at hle hco ⊢
            clear Hown HownV
            have hj1 : IntKind.i64.wrap ((M.length : Int) + 1 - 1) = (M.length : Int) := by rw [Int.add_sub_cancel]; exact IntWalk.i64_in _ (by omega)
            have hj2 : (0 : Int) < (M.length : Int) + 1 := by omega
            have hj3 : ((M.length : Int) + 1).toNat = M.length + 1 := by omega
            have hj4 : IntKind.i64.wrap (M.length : Int) = (M.length : Int) := IntWalk.i64_in _ (by omega)
            have hj5 : (0 : Int) ≤ (M.length : Int) := Int.natCast_nonneg _
            have hj6 : (M.length : Int) < (M.length : Int) + 1 := by omega
            have J := Lib.hid (And.intro hj1 (And.intro hj2 (And.intro hj3 (And.intro hj4 (And.intro hj5 hj6)))))
            have Hcl := Lib.hid hcell
            clear hj1 hj2 hj3 hj4 hj5 hj6 hlenM hcell
            go_wp2_with fail
            refine HIa.out.mono ?_
            rintro e w3 ⟨rfl, hb3⟩
            have hb4 := hb.trans (hb3.mono hbz)
            have HO2 := Lib.hid (ownsRow_below HownM.out hb3)
            have hcV := Lib.hid ((Below.cell (p := ⟨g0, M.length * 2 + 1, none⟩) hb3 hgl).trans Hcl.out)
            go_upto_region 8 with (fail)
            obtain ⟨d0, d1⟩ := Hcell.out w3 hb4
            have e0 := hcV.out
            obtain ⟨hj1, hj2, hj3, hj4, hj5, hj6⟩ := J.out
            by_cases hq : q2 = x
            · have hq2 : (q2 == x) = true := by rw [hq]; exact beq_self_eq_true _
              have Hq := Lib.hid hq
              clear hq
              go_big_quiet (fail)
              clear hj1 hj2 hj3 hj4 hj5 hj6 d0 d1 e0
              go_upto_region 9 with (fail)
              obtain ⟨V, hV⟩ : ∃ V, V = w3.drewN nq := ⟨_, rfl⟩
              have hbV : Below w3.heap.size w3 V := by rw [hV]; exact below_drewN2 (Below.refl _ _) _
              rw [← hV]
              clear hV
              have hbwV := hb4.trans (hbV.mono hb4.size)
              have HO3 := Lib.hid (ownsRow_below HO2.out hbV)
              obtain ⟨d0, d1⟩ := Hcell.out V hbwV
              have hgl3 : g0 < w3.heap.size := Nat.lt_of_lt_of_le hgl hb3.size
              have e0 : V.cell? ⟨g0, M.length * 2 + 1, none⟩ = some (.int .i64 q2) := (hbV.cell (p := ⟨g0, M.length * 2 + 1, none⟩) hgl3).trans hcV.out
              have e1 : V.frozen? ⟨g0, M.length * 2 + 1, none⟩ = false := HO3.out.frozenAt _
              have hst := HO3.out.stored (M.length * 2 + 1) (.int .i64 y)
              have Hst := Lib.hid hst.1
              clear hst
              obtain ⟨hj1, hj2, hj3, hj4, hj5, hj6⟩ := J.out
              go_wp2
              refine ⟨⟨k + 1, by omega, by go_num, ?_, hbwV.setCell hgB _⟩, by simp [intOf]; omega⟩
              rw [HE.out, chStep_eq M (q1, q2) x y Hq.out, List.length_append]
              have h := Hst.out
              rw [flat_set] at h
              exact h
            · have hq2 : (q2 == x) = false := beq_eq_false_iff_ne.2 hq
              have Hq := Lib.hid hq
              clear hq
              go_big_quiet (fail)
              clear hj1 hj2 hj3 hj4 hj5 hj6 d0 d1 e0
              go_upto_region 10 with (fail)
              obtain ⟨V, hV⟩ : ∃ V, V = w3.drewN nq := ⟨_, rfl⟩
              have hbV : Below w3.heap.size w3 V := by rw [hV]; exact below_drewN2 (Below.refl _ _) _
              rw [← hV]
              clear hV
              have hbwV := hb4.trans (hbV.mono hb4.size)
              have HO3 := Lib.hid (ownsRow_below HO2.out hbV)
              obtain ⟨i0, hi, hz1, hz2, hz3⟩ := info_parts Tryz.perInfo
              have Hi := Lib.hid (And.intro hi (And.intro hz1 (And.intro hz2 hz3)))
              clear hi hz1 hz2 hz3
              obtain ⟨m0, m1⟩ := Hcell.out V hbwV
              have hBV : bq < V.heap.size := Nat.lt_of_lt_of_le hBq hbwV.size
              have Hbl := Lib.hid (fun g hg => ownsRow_block HO3.out g hg)
              have Mk := Lib.hid (show ∀ w' : World, Below w2.heap.size w2 w' → w'.cell? ⟨bq, oq + k, none⟩ = some (.int .i64 x) ∧ w'.cell? ⟨bq, oq + (k + 1), none⟩ = some (.int .i64 y) from Hcell.out)
              go_region_held3 (fun w' : World => w'.cell? ⟨bq, oq + k, none⟩ = some (.int .i64 x) ∧ w'.cell? ⟨bq, oq + (k + 1), none⟩ = some (.int .i64 y))
                (first
                  | exact Mk.out _ (by assumption)
                  | exact Mk.out _ (Below.drew hbwV)
                  | exact Mk.out _ (Below.alloc (Below.drew hbwV) (by have := hbwV.size; exact this) _)
                  | exact Mk.out _ (Below.drew (Below.alloc hbwV hbwV.size _)))
                ((refine step_append_lies _ (by rfl) _ _ _ (by rfl) w2.heap.size 25 i0 _ 2 16 Tryz.underlying85 Hi.out.1 Hi.out.2.1 Hi.out.2.2.1 Hi.out.2.2.2 rfl (by omega) (Value.slice (some ⟨g0, 0, none⟩) (M.length + 1) co) (M.length + 1) _ (by rfl) ((HO3.out.alloc _).drew) ⟨V.heap.size, 0, none⟩ 1 1 [.int .i64 x, .int .i64 y] (by rfl) (by rfl) (World.news_of_block (cs := #[.int .i64 x, .int .i64 y]) (t := 25) (fr := (0, 0)) (heap_alloc_new V _)) (by simp [Value.oneCell']) (by omega) (by unfold maxLen; omega) (by omega) (by have := hbwV.size; simp; omega) (V.heap.size + 1) (by simp) ?_; intro gg capg w8 hown8 hgrow8 hat8 hlt8
                  have hY8 : Below w2.heap.size w2 w8 := (Below.drew (Below.alloc hbwV hbwV.size _)).grown hgrow8 (by have := hbwV.size; simp; omega) (fun g hg => (Hbl.out g hg).1)))
              go_wp2
              refine ⟨⟨k + 1, by omega, by go_num, ?_, hY8⟩, by simp [intOf]; omega⟩
              rw [HE.out, chStep_ne M (q1, q2) x y Hq.out, List.length_append, List.flatMap_append]
              have h := hown8
              simpa [perCells] using h
        | false =>
          cases hB : inL b x == inb with
          | false =>
            have HE := Lib.hid (show chUpto l (selB a b false inb) (k + 1) = O by rw [HU.out, if_neg (by rw [hsel, hA, hB]; simp)])
            have hne : (inL b x != inb) = true := by rw [bne, hB]; rfl
            have hne2 : (!(inL b x == inb)) = true := by rw [hB]; rfl
            generalize hB2 : inL b x = bb at *
            have HB2 := Lib.hid hB2
            clear hsel hA hB2
            go_wp2_with fail
            refine HIa.out.mono ?_
            rintro e w3 ⟨rfl, hb3⟩
            have hb4 := hb.trans (hb3.mono hbz)
            have hbw3 := hb2.trans (hb4.mono hz0)
            obtain ⟨d0, d1⟩ := Hcell.out w3 hb4
            have HIb := Lib.hid (HB.out x w3 hbw3)
            rw [HB2.out] at HIb
            clear c0 c1
            go_wp2_with fail
            refine HIb.out.mono ?_
            rintro e w4 ⟨rfl, hb5⟩
            have hb6 := hb3.trans (hb5.mono hb3.size)
            have hb7 := hb.trans (hb6.mono hbz)
            clear d0 d1
            go_wp2
            exact ⟨⟨k + 1, by omega, by go_num, by rw [HE.out]; exact ownsRow_below Hown.out hb6, hb7⟩, by simp [intOf]; omega⟩
          | true =>
            have HE := Lib.hid (show chUpto l (selB a b false inb) (k + 1) = chStep O x y by rw [HU.out, if_pos (by rw [hsel, hA, hB]; simp)])
            have hne : (inL b x != inb) = false := by rw [bne, hB]; rfl
            have hne2 : (!(inL b x == inb)) = false := by rw [hB]; rfl
            generalize hB2 : inL b x = bb at *
            have HB2 := Lib.hid hB2
            clear hsel hA hB2
            have HownV := Lib.hid (fun (w' : World) (h : Below wr.heap.size wr w') => ownsRow_below Hown.out h)
            by_cases hO : O = []
            · subst hO
              have hl0 : ((0 : Nat) : Int) = 0 := rfl
              simp only [List.length_nil] at *
              go_wp2_with fail
              refine HIa.out.mono ?_
              rintro e w3 ⟨rfl, hb3⟩
              have hb4 := hb.trans (hb3.mono hbz)
              have hbw3 := hb2.trans (hb4.mono hz0)
              obtain ⟨d0, d1⟩ := Hcell.out w3 hb4
              have HIb := Lib.hid (HB.out x w3 hbw3)
              rw [HB2.out] at HIb
              clear c0 c1
              go_wp2_with fail
              refine HIb.out.mono ?_
              rintro e w4 ⟨rfl, hb5⟩
              have hb6 := hb3.trans (hb5.mono hb3.size)
              have hb7 := hb.trans (hb6.mono hbz)
              clear d0 d1
              have HO2 := Lib.hid (HownV.out _ hb6)
              go_upto_region 8 with (fail)
              go_big_quiet (fail)
              go_upto_region 10 with (fail)
              obtain ⟨V, hV⟩ : ∃ V, V = w4.drewN nq := ⟨_, rfl⟩
              have hbV : Below w4.heap.size w4 V := by rw [hV]; exact below_drewN2 (Below.refl _ _) _
              rw [← hV]
              clear hV
              have hbwV := hb7.trans (hbV.mono hb7.size)
              have HO3 := Lib.hid (ownsRow_below HO2.out hbV)
              obtain ⟨i0, hi, hz1, hz2, hz3⟩ := info_parts Tryz.perInfo
              have Hi := Lib.hid (And.intro hi (And.intro hz1 (And.intro hz2 hz3)))
              clear hi hz1 hz2 hz3
              obtain ⟨m0, m1⟩ := Hcell.out V hbwV
              have hBV : bq < V.heap.size := Nat.lt_of_lt_of_le hBq hbwV.size
              have Hbl := Lib.hid (fun g hg => ownsRow_block HO3.out g hg)
              have Mk := Lib.hid (show ∀ w' : World, Below w2.heap.size w2 w' → w'.cell? ⟨bq, oq + k, none⟩ = some (.int .i64 x) ∧ w'.cell? ⟨bq, oq + (k + 1), none⟩ = some (.int .i64 y) from Hcell.out)
              go_region_held3 (fun w' : World => w'.cell? ⟨bq, oq + k, none⟩ = some (.int .i64 x) ∧ w'.cell? ⟨bq, oq + (k + 1), none⟩ = some (.int .i64 y))
                (first
                  | exact Mk.out _ (by assumption)
                  | exact Mk.out _ (Below.drew hbwV)
                  | exact Mk.out _ (Below.alloc (Below.drew hbwV) (by have := hbwV.size; exact this) _)
                  | exact Mk.out _ (Below.drew (Below.alloc hbwV hbwV.size _)))
                ((refine step_append_lies _ (by rfl) _ _ _ (by rfl) w2.heap.size 25 i0 _ 2 16 Tryz.underlying85 Hi.out.1 Hi.out.2.1 Hi.out.2.2.1 Hi.out.2.2.2 rfl (by omega) (Value.slice ao 0 co) 0 [] (by rfl) ((HO3.out.alloc _).drew) ⟨V.heap.size, 0, none⟩ 1 1 [.int .i64 x, .int .i64 y] (by rfl) (by rfl) (World.news_of_block (cs := #[.int .i64 x, .int .i64 y]) (t := 25) (fr := (0, 0)) (heap_alloc_new V _)) (by simp [Value.oneCell']) (by omega) (by unfold maxLen; omega) (by omega) (by have := hbwV.size; simp; omega) (V.heap.size + 1) (by simp) ?_; intro gg capg w8 hown8 hgrow8 hat8 hlt8
                  have hY8 : Below w2.heap.size w2 w8 := (Below.drew (Below.alloc hbwV hbwV.size _)).grown hgrow8 (by have := hbwV.size; simp; omega) (fun g hg => (Hbl.out g hg).1)))
              go_wp2
              refine ⟨⟨k + 1, by omega, by go_num, ?_, hY8⟩, by simp [intOf]; omega⟩
              rw [HE.out, chStep_nil, ← List.nil_append [(x, y)], List.length_append, List.flatMap_append]
              exact hown8
            · obtain ⟨M, q, rfl⟩ : ∃ M q, O = M ++ [q] := ⟨_, _, (List.dropLast_concat_getLast hO).symm⟩
              obtain ⟨q1, q2⟩ := q
              clear hO
              obtain ⟨g0, cg, hvv, hgB, hgl, hcell⟩ : ∃ g cap, (Value.slice ao (M ++ [(q1, q2)]).length co) = .slice (some ⟨g, 0, none⟩) (M ++ [(q1, q2)]).length cap ∧ w2.heap.size ≤ g ∧ g < wr.heap.size ∧ wr.cell? ⟨g, M.length * 2 + 1, none⟩ = some (.int .i64 q2) := by
                have h0 := Hown.out
                rcases h0.2 with ⟨-, h1⟩ | ⟨g, cap, cur, hv, hB, hh, -⟩
                · simp at h1
                · rw [hv] at h0
                  refine ⟨g, cap, hv, hB, (Array.getElem?_eq_some_iff.1 hh).1, ?_⟩
                  rw [h0.cellAt (M.length * 2 + 1) (by simp; omega), List.flatMap_append, List.getElem?_append_right (by rw [flat_length perCells 2 (fun _ => rfl)]; omega), flat_length perCells 2 (fun _ => rfl)]
                  simp [perCells]
              simp only [Value.slice.injEq] at hvv
              obtain ⟨rfl, -, rfl⟩ := hvv
              have hlenM : (M ++ [(q1, q2)]).length = M.length + 1 := by simp
              have HownM := Lib.hid (show wr.ownsRow w2.heap.size 25 2 (.slice (some ⟨g0, 0, none⟩) (M.length + 1) co) (M.length + 1) ((M ++ [(q1, q2)]).flatMap perCells) by have h := Hown.out; rwa [hlenM] at h)
              rw [hlenM] at hle hco ⊢
              clear Hown HownV
              have hj1 : IntKind.i64.wrap ((M.length : Int) + 1 - 1) = (M.length : Int) := by rw [Int.add_sub_cancel]; exact IntWalk.i64_in _ (by omega)
              have hj2 : (0 : Int) < (M.length : Int) + 1 := by omega
              have hj3 : ((M.length : Int) + 1).toNat = M.length + 1 := by omega
              have hj4 : IntKind.i64.wrap (M.length : Int) = (M.length : Int) := IntWalk.i64_in _ (by omega)
              have hj5 : (0 : Int) ≤ (M.length : Int) := Int.natCast_nonneg _
              have hj6 : (M.length : Int) < (M.length : Int) + 1 := by omega
              have J := Lib.hid (And.intro hj1 (And.intro hj2 (And.intro hj3 (And.intro hj4 (And.intro hj5 hj6)))))
              have Hcl := Lib.hid hcell
              clear hj1 hj2 hj3 hj4 hj5 hj6 hlenM hcell
              go_wp2_with fail
              refine HIa.out.mono ?_
              rintro e w3 ⟨rfl, hb3⟩
              have hb4 := hb.trans (hb3.mono hbz)
              have hbw3 := hb2.trans (hb4.mono hz0)
              obtain ⟨d0, d1⟩ := Hcell.out w3 hb4
              have HIb := Lib.hid (HB.out x w3 hbw3)
              rw [HB2.out] at HIb
              clear c0 c1
              go_wp2_with fail
              refine HIb.out.mono ?_
              rintro e w4 ⟨rfl, hb5⟩
              have hb6 := hb3.trans (hb5.mono hb3.size)
              have hb7 := hb.trans (hb6.mono hbz)
              clear d0 d1
              have HO2 := Lib.hid (ownsRow_below HownM.out hb6)
              have hcV := Lib.hid ((Below.cell (p := ⟨g0, M.length * 2 + 1, none⟩) hb6 hgl).trans Hcl.out)
              go_upto_region 8 with (fail)
              obtain ⟨d0, d1⟩ := Hcell.out w4 hb7
              have e0 := hcV.out
              obtain ⟨hj1, hj2, hj3, hj4, hj5, hj6⟩ := J.out
              by_cases hq : q2 = x
              · have hq2 : (q2 == x) = true := by rw [hq]; exact beq_self_eq_true _
                have Hq := Lib.hid hq
                clear hq
                go_big_quiet (fail)
                clear hj1 hj2 hj3 hj4 hj5 hj6 d0 d1 e0
                go_upto_region 9 with (fail)
                obtain ⟨V, hV⟩ : ∃ V, V = w4.drewN nq := ⟨_, rfl⟩
                have hbV : Below w4.heap.size w4 V := by rw [hV]; exact below_drewN2 (Below.refl _ _) _
                rw [← hV]
                clear hV
                have hbwV := hb7.trans (hbV.mono hb7.size)
                have HO3 := Lib.hid (ownsRow_below HO2.out hbV)
                obtain ⟨d0, d1⟩ := Hcell.out V hbwV
                have hgl3 : g0 < w4.heap.size := Nat.lt_of_lt_of_le hgl hb6.size
                have e0 : V.cell? ⟨g0, M.length * 2 + 1, none⟩ = some (.int .i64 q2) := (hbV.cell (p := ⟨g0, M.length * 2 + 1, none⟩) hgl3).trans hcV.out
                have e1 : V.frozen? ⟨g0, M.length * 2 + 1, none⟩ = false := HO3.out.frozenAt _
                have hst := HO3.out.stored (M.length * 2 + 1) (.int .i64 y)
                have Hst := Lib.hid hst.1
                clear hst
                obtain ⟨hj1, hj2, hj3, hj4, hj5, hj6⟩ := J.out
                go_wp2
                refine ⟨⟨k + 1, by omega, by go_num, ?_, hbwV.setCell hgB _⟩, by simp [intOf]; omega⟩
                rw [HE.out, chStep_eq M (q1, q2) x y Hq.out, List.length_append]
                have h := Hst.out
                rw [flat_set] at h
                exact h
              · have hq2 : (q2 == x) = false := beq_eq_false_iff_ne.2 hq
                have Hq := Lib.hid hq
                clear hq
                go_big_quiet (fail)
                clear hj1 hj2 hj3 hj4 hj5 hj6 d0 d1 e0
                go_upto_region 10 with (fail)
                obtain ⟨V, hV⟩ : ∃ V, V = w4.drewN nq := ⟨_, rfl⟩
                have hbV : Below w4.heap.size w4 V := by rw [hV]; exact below_drewN2 (Below.refl _ _) _
                rw [← hV]
                clear hV
                have hbwV := hb7.trans (hbV.mono hb7.size)
                have HO3 := Lib.hid (ownsRow_below HO2.out hbV)
                obtain ⟨i0, hi, hz1, hz2, hz3⟩ := info_parts Tryz.perInfo
                have Hi := Lib.hid (And.intro hi (And.intro hz1 (And.intro hz2 hz3)))
                clear hi hz1 hz2 hz3
                obtain ⟨m0, m1⟩ := Hcell.out V hbwV
                have hBV : bq < V.heap.size := Nat.lt_of_lt_of_le hBq hbwV.size
                have Hbl := Lib.hid (fun g hg => ownsRow_block HO3.out g hg)
                have Mk := Lib.hid (show ∀ w' : World, Below w2.heap.size w2 w' → w'.cell? ⟨bq, oq + k, none⟩ = some (.int .i64 x) ∧ w'.cell? ⟨bq, oq + (k + 1), none⟩ = some (.int .i64 y) from Hcell.out)
                go_region_held3 (fun w' : World => w'.cell? ⟨bq, oq + k, none⟩ = some (.int .i64 x) ∧ w'.cell? ⟨bq, oq + (k + 1), none⟩ = some (.int .i64 y))
                  (first
                    | exact Mk.out _ (by assumption)
                    | exact Mk.out _ (Below.drew hbwV)
                    | exact Mk.out _ (Below.alloc (Below.drew hbwV) (by have := hbwV.size; exact this) _)
                    | exact Mk.out _ (Below.drew (Below.alloc hbwV hbwV.size _)))
                  ((refine step_append_lies _ (by rfl) _ _ _ (by rfl) w2.heap.size 25 i0 _ 2 16 Tryz.underlying85 Hi.out.1 Hi.out.2.1 Hi.out.2.2.1 Hi.out.2.2.2 rfl (by omega) (Value.slice (some ⟨g0, 0, none⟩) (M.length + 1) co) (M.length + 1) _ (by rfl) ((HO3.out.alloc _).drew) ⟨V.heap.size, 0, none⟩ 1 1 [.int .i64 x, .int .i64 y] (by rfl) (by rfl) (World.news_of_block (cs := #[.int .i64 x, .int .i64 y]) (t := 25) (fr := (0, 0)) (heap_alloc_new V _)) (by simp [Value.oneCell']) (by omega) (by unfold maxLen; omega) (by omega) (by have := hbwV.size; simp; omega) (V.heap.size + 1) (by simp) ?_; intro gg capg w8 hown8 hgrow8 hat8 hlt8
                    have hY8 : Below w2.heap.size w2 w8 := (Below.drew (Below.alloc hbwV hbwV.size _)).grown hgrow8 (by have := hbwV.size; simp; omega) (fun g hg => (Hbl.out g hg).1)))
                go_wp2
                refine ⟨⟨k + 1, by omega, by go_num, ?_, hY8⟩, by simp [intOf]; omega⟩
                rw [HE.out, chStep_ne M (q1, q2) x y Hq.out, List.length_append, List.flatMap_append]
                have h := hown8
                simpa [perCells] using h
    · have hke : k = l.length - 1 := by omega
      have HE := Lib.hid (show chooseL a b ig inb = chUpto l (selB a b ig inb) k by rw [HC.out, ← hke])
      have hk5 : decide ((k : Int) + 1 < (l.length : Int)) = false := decide_eq_false (by omega)
      clear hke
      generalize chUpto l (selB a b ig inb) k = O at *
      go_wp2
      go_ret
      exact ⟨_, rfl, by rw [HE.out]; exact PersAt.own Hown.out, hbw⟩
end Go.Proofs.YtngippiilgdnoaaGreat
