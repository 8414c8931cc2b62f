/-
  The walk of the reference's choose: the canonical list of the instants that two sets of periods decide about.
  The plain law: choose on two single periods gives what they have in common.
  The walks of the reference's Common and Intersect.
  Canonical lists of periods: the plain law. Two of them with the same instants are the same; what choose gives is canonical and holds the chosen instants.
  What the reference's choose gives, in plain Lean: a canonical list, and the instants in it are those chosen.
  The walk of the reference's Same.
  The walks of the reference's Cover, Minus and Same.
  The walks of the reference's Total and of the laws' `in`.
  The program's sweep over sorted changes, in plain Lean: a canonical list, and the instants in it are those of the condition.
  The program's sweep answers canonically: the law of its invariant.
  The walk of combine's inner function that gathers the changes of a list, and of the one that compares two changes.
  The plain laws of the sets: their instants, their totals, and what Minus, Common and Cover make of one another.
  The days that a canonical set of instants touches, in plain Lean.
  The walk of the reference's Days.
-/
import Derived.Test.YtngippiilgdnoaaGreatMpak
import Derived.Laws.OwnMore
import Derived.Deep.AppendLies
import Derived.Test.YtngippiilgdnoaaGreatMpad
import Derived.Test.YtngippiilgdnoaaGreatMpai
import Derived.Laws.AppendOwn
namespace Go.Proofs.YtngippiilgdnoaaGreat
open Go.RowKit

theorem Tryz.perInfo : (Tryz.prog.info? 25).map (fun i => (i.zero, i.size, i.bytes)) = some (some (.agg #[.int .i64 0, .int .i64 0]), 2, 16) := by kernel_rfl

/-- Is an instant chosen? -/
def selB (a b : List (Int × Int)) (ig inb : Bool) (x : Int) : Bool := inL a x && (ig || (inL b x == inb))
/-- One piece more. -/
def chStep (O : List (Int × Int)) (x y : Int) : List (Int × Int) :=
  match O.getLast? with
  | some q => if q.2 = x then O.dropLast ++ [(q.1, y)] else O ++ [(x, y)]
  | none => [(x, y)]
def chUpto (l : List Int) (sel : Int → Bool) : Nat → List (Int × Int)
  | 0 => []
  | k + 1 => if sel (l.getD k 0) = true then chStep (chUpto l sel k) (l.getD k 0) (l.getD (k + 1) 0) else chUpto l sel k
def chooseL (a b : List (Int × Int)) (ig inb : Bool) : List (Int × Int) :=
  chUpto (limitsL (limitsL [] a) b) (selB a b ig inb) ((limitsL (limitsL [] a) b).length - 1)

theorem chStep_nil (x y : Int) : chStep [] x y = [(x, y)] := rfl
theorem chStep_eq (M : List (Int × Int)) (q : Int × Int) (x y : Int) (h : q.2 = x) : chStep (M ++ [q]) x y = M ++ [(q.1, y)] := by
  unfold chStep; rw [List.getLast?_concat, List.dropLast_concat]; exact if_pos h
theorem chStep_ne (M : List (Int × Int)) (q : Int × Int) (x y : Int) (h : q.2 ≠ x) : chStep (M ++ [q]) x y = M ++ [q] ++ [(x, y)] := by
  unfold chStep; rw [List.getLast?_concat]; exact if_neg h
theorem chStep_len (O : List (Int × Int)) (x y : Int) : (chStep O x y).length ≤ O.length + 1 := by
  by_cases h : O = []
  · subst h; simp [chStep_nil]
  · obtain ⟨M, z, rfl⟩ : ∃ M z, O = M ++ [z] := ⟨_, _, (List.dropLast_concat_getLast h).symm⟩
    by_cases hz : z.2 = x
    · rw [chStep_eq M z x y hz]; simp
    · rw [chStep_ne M z x y hz]; simp
theorem chUpto_len (l : List Int) (sel : Int → Bool) (k : Nat) : (chUpto l sel k).length ≤ k := by
  induction k with
  | zero => exact Nat.le_refl _
  | succ k ih =>
    rw [chUpto]
    split
    · have := chStep_len (chUpto l sel k) (l.getD k 0) (l.getD (k + 1) 0); omega
    · omega

theorem flat_set (M : List (Int × Int)) (q1 q2 y : Int) : ((M ++ [(q1, q2)]).flatMap perCells).set (M.length * 2 + 1) (.int .i64 y) = (M ++ [(q1, y)]).flatMap perCells := by
  rw [List.flatMap_append, List.flatMap_append, List.set_append_right _ _ (by rw [flat_length perCells 2 (fun _ => rfl)]; omega), flat_length perCells 2 (fun _ => rfl)]
  congr 1
  rw [Nat.add_sub_cancel_left]
  rfl

theorem getD_at (l : List Int) (i : Nat) (d : Int) (h : i < l.length) : l.getD i d = l[i] := by simp [List.getD, h]

theorem below_drewN2 {B : Nat} {a w : World} (h : Below B a w) (n : Nat) : Below B a (w.drewN n) := ⟨h.os, h.tape, h.output, h.size, h.block⟩

def PersTo (w : World) (N : List (Int × Int)) (e : Ending) (w' : World) : Prop := ∃ v, e = .returned v ∧ PersAt w' v N ∧ Below w.heap.size w w'

set_option maxRecDepth 100000 in
set_option maxHeartbeats 12800000 in
theorem choose_calls (va vb : Value) (a b : List (Int × Int)) (ig inb : Bool) (w : World) (ha : PersAt w va a) (hb0 : PersAt w vb b) (hn : a.length + b.length ≤ 2000) :
    Calls Tryz.prog 104 #[va, vb, .bool ig, .bool inb] w (PersTo w (chooseL a b ig inb)) := by
  have H1 := Lib.hid (limits_calls (.slice none 0 0) va [] a w (SliceAt.nil w) ha (by simp; omega))
  have hl1 := limits_len [] a
  rw [List.length_nil, Nat.zero_add] at hl1
  have H2 := Lib.hid (fun v1 w1 (h1 : IcsAt w1 v1 (limitsL [] a)) (hb : Below w.heap.size w w1) => limits_calls v1 vb (limitsL [] a) b w1 h1 (hb0.below hb) (by omega))
  have hl2 := limits_len (limitsL [] a) b
  have HA := Lib.hid (fun x w1 (hb : Below w.heap.size w w1) => in_calls va a x w1 (ha.below hb))
  have HB := Lib.hid (fun x w1 (hb : Below w.heap.size w w1) => in_calls vb b x w1 (hb0.below hb))
  have HC := Lib.hid (show chooseL a b ig inb = chUpto (limitsL (limitsL [] a) b) (selB a b ig inb) ((limitsL (limitsL [] a) b).length - 1) from rfl)
  obtain ⟨aa, ca, rfl, -, -, -⟩ := ha
  obtain ⟨ab, cb, rfl, -, -, -⟩ := hb0
  go_enter Tryz.func104, Tryz.ntmps104
  go_wp2_with fail
  refine H1.out.mono ?_
  rintro e w1 ⟨v1, rfl, hi1, hb1⟩
  go_wp2_with fail
  refine (H2.out v1 w1 hi1 hb1).mono ?_
  rintro e w2 ⟨v2, rfl, hi2, hbx⟩
  have hb2 := hb1.trans (hbx.mono hb1.size)
  clear hi1 hb1 hbx H1 H2
  generalize limitsL (limitsL [] a) b = l at *
  have HI := Lib.hid hi2
  obtain ⟨al, cl, rfl, hlc, hcl, -⟩ := hi2
  have hl3 : l.length ≤ 5000 := by omega
  clear hl1 hl2 hcl
  have hz0 := hb2.size
  go_wp2_with fail
  go_loopw [10, 11] (fun v i wr => ∃ k : Nat, k ≤ l.length - 1 ∧ i = .int .i64 k ∧ wr.ownsRow w2.heap.size 25 2 v (chUpto l (selB a b ig inb) k).length ((chUpto l (selB a b ig inb) k).flatMap perCells) ∧ Below w2.heap.size w2 wr) (fun _ i _ => l.length - (intOf i).toNat)
  case atStart => exact ⟨0, Nat.zero_le _, rfl, ⟨rfl, Or.inl ⟨rfl, rfl⟩⟩, Below.refl _ _⟩
  case round =>
    obtain ⟨k, hk, rfl, hown, hb⟩ := hrel
    have hle := chUpto_len l (selB a b ig inb) k
    have hbz := hb.size
    have hbw := hb2.trans (hb.mono hz0)
    obtain ⟨ao, co, rfl, hco, -⟩ := own_shape hown
    have Hown := Lib.hid hown
    clear hown
    have hkw : IntKind.i64.wrap ((k : Int) + 1) = (k : Int) + 1 := IntWalk.i64_in _ (by omega)
    by_cases hlt : k + 1 < l.length
    · have Hxy := Lib.hid (show ∀ w', Below w2.heap.size w2 w' → ∃ bq oq, al = some ⟨bq, oq, none⟩ ∧ bq < w2.heap.size ∧ w'.cell? ⟨bq, oq + k, none⟩ = some (.int .i64 (l.getD k 0)) ∧ w'.cell? ⟨bq, oq + (k + 1), none⟩ = some (.int .i64 (l.getD (k + 1) 0)) from fun w' hw => by
        obtain ⟨av3, cap3, e3, -, -, hy⟩ := HI.out
        cases e3
        obtain ⟨b3, o3, e4, hB3, hy⟩ := hy (by rintro rfl; cases hlt)
        have h1 := IntC.stays _ _ _ _ _ hw hB3 (hy k (by omega))
        have h2 := IntC.stays _ _ _ _ _ hw hB3 (hy (k + 1) hlt)
        unfold IntC at h1 h2
        rw [Nat.mul_one] at h1 h2
        rw [getD_at l k 0 (by omega), getD_at l (k + 1) 0 hlt]
        exact ⟨b3, o3, e4, hB3, h1, h2⟩)
      have hU : chUpto l (selB a b ig inb) (k + 1) = if selB a b ig inb (l.getD k 0) = true then chStep (chUpto l (selB a b ig inb) k) (l.getD k 0) (l.getD (k + 1) 0) else chUpto l (selB a b ig inb) k := rfl
      generalize l.getD k 0 = x at *
      generalize l.getD (k + 1) 0 = y at *
      obtain ⟨bq, oq, rfl, hBq, c0, c1⟩ := Hxy.out wr hb
      have Hcell := Lib.hid (show ∀ w', Below w2.heap.size w2 w' → w'.cell? ⟨bq, oq + k, none⟩ = some (.int .i64 x) ∧ w'.cell? ⟨bq, oq + (k + 1), none⟩ = some (.int .i64 y) from fun w' hw => by
        obtain ⟨b3, o3, e4, -, h1, h2⟩ := Hxy.out w' hw
        cases e4
        exact ⟨h1, h2⟩)
      have hk0 : (0 : Int) ≤ (k : Int) := Int.natCast_nonneg _
      have hk1 : (k : Int) < (l.length : Int) := by omega
      have hk2 : (k : Int) + 1 < (l.length : Int) := by omega
      have hk3 : (0 : Int) ≤ (k : Int) + 1 := by omega
      have hk4 : ((k : Int) + 1).toNat = k + 1 := by omega
      have hk5 : decide ((k : Int) + 1 < (l.length : Int)) = true := decide_eq_true hk2
      have HU := Lib.hid hU
      have hsel : selB a b ig inb x = (inL a x && (ig || (inL b x == inb))) := rfl
      have HIa := Lib.hid (HA.out x wr hbw)
      generalize chUpto l (selB a b ig inb) k = O at *
      clear hU Hxy
      cases hA : inL a x with
      | false =>
        rw [hA] at HIa
        have HE := Lib.hid (show chUpto l (selB a b ig inb) (k + 1) = O by rw [HU.out, if_neg (by rw [hsel, hA]; simp)])
        clear hsel hA
        go_wp2_with fail
        refine HIa.out.mono ?_
        rintro e w3 ⟨rfl, hb3⟩
        have hb4 := hb.trans (hb3.mono hbz)
        go_wp2
        exact ⟨⟨k + 1, by omega, by go_num, by rw [HE.out]; exact ownsRow_below Hown.out hb3, hb4⟩, by simp [intOf]; omega⟩
      | true =>
        rw [hA] at HIa
        cases ig with
        | true =>
          have HE := Lib.hid (show chUpto l (selB a b true inb) (k + 1) = chStep O x y by rw [HU.out, if_pos (by rw [hsel, hA]; simp)])
          clear hsel hA
          have HownV := Lib.hid (fun (w' : World) (h : Below wr.heap.size wr w') => ownsRow_below Hown.out h)
          by_cases hO : O = []
          · subst hO
            have hl0 : ((0 : Nat) : Int) = 0 := rfl
            simp only [List.length_nil] at *
            go_wp2_with fail
            refine HIa.out.mono ?_
            rintro e w3 ⟨rfl, hb3⟩
            have hb4 := hb.trans (hb3.mono hbz)
            have HO2 := Lib.hid (HownV.out _ hb3)
            go_upto_region 8 with (fail)
            go_big_quiet (fail)
            go_upto_region 10 with (fail)
            obtain ⟨V, hV⟩ : ∃ V, V = w3.drewN nq := ⟨_, rfl⟩
            have hbV : Below w3.heap.size w3 V := by rw [hV]; exact below_drewN2 (Below.refl _ _) _
            rw [← hV]
            clear hV
            have hbwV := hb4.trans (hbV.mono hb4.size)
            have HO3 := Lib.hid (ownsRow_below HO2.out hbV)
            obtain ⟨i0, hi, hz1, hz2, hz3⟩ := info_parts Tryz.perInfo
            have Hi := Lib.hid (And.intro hi (And.intro hz1 (And.intro hz2 hz3)))
            clear hi hz1 hz2 hz3
            obtain ⟨m0, m1⟩ := Hcell.out V hbwV
            have hBV : bq < V.heap.size := Nat.lt_of_lt_of_le hBq hbwV.size
            have Hbl := Lib.hid (fun g hg => ownsRow_block HO3.out g hg)
            have Mk := Lib.hid (show ∀ w' : World, Below w2.heap.size w2 w' → w'.cell? ⟨bq, oq + k, none⟩ = some (.int .i64 x) ∧ w'.cell? ⟨bq, oq + (k + 1), none⟩ = some (.int .i64 y) from Hcell.out)
            go_region_held3 (fun w' : World => w'.cell? ⟨bq, oq + k, none⟩ = some (.int .i64 x) ∧ w'.cell? ⟨bq, oq + (k + 1), none⟩ = some (.int .i64 y))
              (first
                | exact Mk.out _ (by assumption)
                | exact Mk.out _ (Below.drew hbwV)
                | exact Mk.out _ (Below.alloc (Below.drew hbwV) (by have := hbwV.size; exact this) _)
                | exact Mk.out _ (Below.drew (Below.alloc hbwV hbwV.size _)))
              ((refine step_append_lies _ (by rfl) _ _ _ (by rfl) w2.heap.size 25 i0 _ 2 16 Tryz.underlying85 Hi.out.1 Hi.out.2.1 Hi.out.2.2.1 Hi.out.2.2.2 rfl (by omega) (Value.slice ao 0 co) 0 [] (by rfl) ((HO3.out.alloc _).drew) ⟨V.heap.size, 0, none⟩ 1 1 [.int .i64 x, .int .i64 y] (by rfl) (by rfl) (World.news_of_block (cs := #[.int .i64 x, .int .i64 y]) (t := 25) (fr := (0, 0)) (heap_alloc_new V _)) (by simp [Value.oneCell']) (by omega) (by unfold maxLen; omega) (by omega) (by have := hbwV.size; simp; omega) (V.heap.size + 1) (by simp) ?_; intro gg capg w8 hown8 hgrow8 hat8 hlt8
                have hY8 : Below w2.heap.size w2 w8 := (Below.drew (Below.alloc hbwV hbwV.size _)).grown hgrow8 (by have := hbwV.size; simp; omega) (fun g hg => (Hbl.out g hg).1)))
            go_wp2
            refine ⟨⟨k + 1, by omega, by go_num, ?_, hY8⟩, by simp [intOf]; omega⟩
            rw [HE.out, chStep_nil, ← List.nil_append [(x, y)], List.length_append, List.flatMap_append]
            exact hown8
          · obtain ⟨M, q, rfl⟩ : ∃ M q, O = M ++ [q] := ⟨_, _, (List.dropLast_concat_getLast hO).symm⟩
            obtain ⟨q1, q2⟩ := q
            clear hO
            obtain ⟨g0, cg, hvv, hgB, hgl, hcell⟩ : ∃ g cap, (Value.slice ao (M ++ [(q1, q2)]).length co) = .slice (some ⟨g, 0, none⟩) (M ++ [(q1, q2)]).length cap ∧ w2.heap.size ≤ g ∧ g < wr.heap.size ∧ wr.cell? ⟨g, M.length * 2 + 1, none⟩ = some (.int .i64 q2) := by
              have h0 := Hown.out
              rcases h0.2 with ⟨-, h1⟩ | ⟨g, cap, cur, hv, hB, hh, -⟩
              · simp at h1
              · rw [hv] at h0
                refine ⟨g, cap, hv, hB, (Array.getElem?_eq_some_iff.1 hh).1, ?_⟩
                rw [h0.cellAt (M.length * 2 + 1) (by simp; omega), List.flatMap_append, List.getElem?_append_right (by rw [flat_length perCells 2 (fun _ => rfl)]; omega), flat_length perCells 2 (fun _ => rfl)]
                simp [perCells]
            simp only [Value.slice.injEq] at hvv
            obtain ⟨rfl, -, rfl⟩ := hvv
            have hlenM : (M ++ [(q1, q2)]).length = M.length + 1 := by simp
            have HownM := Lib.hid (show wr.ownsRow w2.heap.size 25 2 (.slice (some ⟨g0, 0, none⟩) (M.length + 1) co) (M.length + 1) ((M ++ [(q1, q2)]).flatMap perCells) by have h := Hown.out; rwa [hlenM] at h)
            rw [hlenM] at hle hco ⊢
            clear Hown HownV
            have hj1 : IntKind.i64.wrap ((M.length : Int) + 1 - 1) = (M.length : Int) := by rw [Int.add_sub_cancel]; exact IntWalk.i64_in _ (by omega)
            have hj2 : (0 : Int) < (M.length : Int) + 1 := by omega
            have hj3 : ((M.length : Int) + 1).toNat = M.length + 1 := by omega
            have hj4 : IntKind.i64.wrap (M.length : Int) = (M.length : Int) := IntWalk.i64_in _ (by omega)
            have hj5 : (0 : Int) ≤ (M.length : Int) := Int.natCast_nonneg _
            have hj6 : (M.length : Int) < (M.length : Int) + 1 := by omega
            have J := Lib.hid (And.intro hj1 (And.intro hj2 (And.intro hj3 (And.intro hj4 (And.intro hj5 hj6)))))
            have Hcl := Lib.hid hcell
            clear hj1 hj2 hj3 hj4 hj5 hj6 hlenM hcell
            go_wp2_with fail
            refine HIa.out.mono ?_
            rintro e w3 ⟨rfl, hb3⟩
            have hb4 := hb.trans (hb3.mono hbz)
            have HO2 := Lib.hid (ownsRow_below HownM.out hb3)
            have hcV := Lib.hid ((Below.cell (p := ⟨g0, M.length * 2 + 1, none⟩) hb3 hgl).trans Hcl.out)
            go_upto_region 8 with (fail)
            obtain ⟨d0, d1⟩ := Hcell.out w3 hb4
            have e0 := hcV.out
            obtain ⟨hj1, hj2, hj3, hj4, hj5, hj6⟩ := J.out
            by_cases hq : q2 = x
            · have hq2 : (q2 == x) = true := by rw [hq]; exact beq_self_eq_true _
              have Hq := Lib.hid hq
              clear hq
              go_big_quiet (fail)
              clear hj1 hj2 hj3 hj4 hj5 hj6 d0 d1 e0
              go_upto_region 9 with (fail)
              obtain ⟨V, hV⟩ : ∃ V, V = w3.drewN nq := ⟨_, rfl⟩
              have hbV : Below w3.heap.size w3 V := by rw [hV]; exact below_drewN2 (Below.refl _ _) _
              rw [← hV]
              clear hV
              have hbwV := hb4.trans (hbV.mono hb4.size)
              have HO3 := Lib.hid (ownsRow_below HO2.out hbV)
              obtain ⟨d0, d1⟩ := Hcell.out V hbwV
              have hgl3 : g0 < w3.heap.size := Nat.lt_of_lt_of_le hgl hb3.size
              have e0 : V.cell? ⟨g0, M.length * 2 + 1, none⟩ = some (.int .i64 q2) := (hbV.cell (p := ⟨g0, M.length * 2 + 1, none⟩) hgl3).trans hcV.out
              have e1 : V.frozen? ⟨g0, M.length * 2 + 1, none⟩ = false := HO3.out.frozenAt _
              have hst := HO3.out.stored (M.length * 2 + 1) (.int .i64 y)
              have Hst := Lib.hid hst.1
              clear hst
              obtain ⟨hj1, hj2, hj3, hj4, hj5, hj6⟩ := J.out
              go_wp2
              refine ⟨⟨k + 1, by omega, by go_num, ?_, hbwV.setCell hgB _⟩, by simp [intOf]; omega⟩
              rw [HE.out, chStep_eq M (q1, q2) x y Hq.out, List.length_append]
              have h := Hst.out
              rw [flat_set] at h
              exact h
            · have hq2 : (q2 == x) = false := beq_eq_false_iff_ne.2 hq
              have Hq := Lib.hid hq
              clear hq
              go_big_quiet (fail)
              clear hj1 hj2 hj3 hj4 hj5 hj6 d0 d1 e0
              go_upto_region 10 with (fail)
              obtain ⟨V, hV⟩ : ∃ V, V = w3.drewN nq := ⟨_, rfl⟩
              have hbV : Below w3.heap.size w3 V := by rw [hV]; exact below_drewN2 (Below.refl _ _) _
              rw [← hV]
              clear hV
              have hbwV := hb4.trans (hbV.mono hb4.size)
              have HO3 := Lib.hid (ownsRow_below HO2.out hbV)
              obtain ⟨i0, hi, hz1, hz2, hz3⟩ := info_parts Tryz.perInfo
              have Hi := Lib.hid (And.intro hi (And.intro hz1 (And.intro hz2 hz3)))
              clear hi hz1 hz2 hz3
              obtain ⟨m0, m1⟩ := Hcell.out V hbwV
              have hBV : bq < V.heap.size := Nat.lt_of_lt_of_le hBq hbwV.size
              have Hbl := Lib.hid (fun g hg => ownsRow_block HO3.out g hg)
              have Mk := Lib.hid (show ∀ w' : World, Below w2.heap.size w2 w' → w'.cell? ⟨bq, oq + k, none⟩ = some (.int .i64 x) ∧ w'.cell? ⟨bq, oq + (k + 1), none⟩ = some (.int .i64 y) from Hcell.out)
              go_region_held3 (fun w' : World => w'.cell? ⟨bq, oq + k, none⟩ = some (.int .i64 x) ∧ w'.cell? ⟨bq, oq + (k + 1), none⟩ = some (.int .i64 y))
                (first
                  | exact Mk.out _ (by assumption)
                  | exact Mk.out _ (Below.drew hbwV)
                  | exact Mk.out _ (Below.alloc (Below.drew hbwV) (by have := hbwV.size; exact this) _)
                  | exact Mk.out _ (Below.drew (Below.alloc hbwV hbwV.size _)))
                ((refine step_append_lies _ (by rfl) _ _ _ (by rfl) w2.heap.size 25 i0 _ 2 16 Tryz.underlying85 Hi.out.1 Hi.out.2.1 Hi.out.2.2.1 Hi.out.2.2.2 rfl (by omega) (Value.slice (some ⟨g0, 0, none⟩) (M.length + 1) co) (M.length + 1) _ (by rfl) ((HO3.out.alloc _).drew) ⟨V.heap.size, 0, none⟩ 1 1 [.int .i64 x, .int .i64 y] (by rfl) (by rfl) (World.news_of_block (cs := #[.int .i64 x, .int .i64 y]) (t := 25) (fr := (0, 0)) (heap_alloc_new V _)) (by simp [Value.oneCell']) (by omega) (by unfold maxLen; omega) (by omega) (by have := hbwV.size; simp; omega) (V.heap.size + 1) (by simp) ?_; intro gg capg w8 hown8 hgrow8 hat8 hlt8
                  have hY8 : Below w2.heap.size w2 w8 := (Below.drew (Below.alloc hbwV hbwV.size _)).grown hgrow8 (by have := hbwV.size; simp; omega) (fun g hg => (Hbl.out g hg).1)))
              go_wp2
              refine ⟨⟨k + 1, by omega, by go_num, ?_, hY8⟩, by simp [intOf]; omega⟩
              rw [HE.out, chStep_ne M (q1, q2) x y Hq.out, List.length_append, List.flatMap_append]
              have h := hown8
              simpa [perCells] using h
        | false =>
          cases hB : inL b x == inb with
          | false =>
            have HE := Lib.hid (show chUpto l (selB a b false inb) (k + 1) = O by rw [HU.out, if_neg (by rw [hsel, hA, hB]; simp)])
            have hne : (inL b x != inb) = true := by rw [bne, hB]; rfl
            have hne2 : (!(inL b x == inb)) = true := by rw [hB]; rfl
            generalize hB2 : inL b x = bb at *
            have HB2 := Lib.hid hB2
            clear hsel hA hB2
            go_wp2_with fail
            refine HIa.out.mono ?_
            rintro e w3 ⟨rfl, hb3⟩
            have hb4 := hb.trans (hb3.mono hbz)
            have hbw3 := hb2.trans (hb4.mono hz0)
            obtain ⟨d0, d1⟩ := Hcell.out w3 hb4
            have HIb := Lib.hid (HB.out x w3 hbw3)
            rw [HB2.out] at HIb
            clear c0 c1
            go_wp2_with fail
            refine HIb.out.mono ?_
            rintro e w4 ⟨rfl, hb5⟩
            have hb6 := hb3.trans (hb5.mono hb3.size)
            have hb7 := hb.trans (hb6.mono hbz)
            clear d0 d1
            go_wp2
            exact ⟨⟨k + 1, by omega, by go_num, by rw [HE.out]; exact ownsRow_below Hown.out hb6, hb7⟩, by simp [intOf]; omega⟩
          | true =>
            have HE := Lib.hid (show chUpto l (selB a b false inb) (k + 1) = chStep O x y by rw [HU.out, if_pos (by rw [hsel, hA, hB]; simp)])
            have hne : (inL b x != inb) = false := by rw [bne, hB]; rfl
            have hne2 : (!(inL b x == inb)) = false := by rw [hB]; rfl
            generalize hB2 : inL b x = bb at *
            have HB2 := Lib.hid hB2
            clear hsel hA hB2
            have HownV := Lib.hid (fun (w' : World) (h : Below wr.heap.size wr w') => ownsRow_below Hown.out h)
            by_cases hO : O = []
            · subst hO
              have hl0 : ((0 : Nat) : Int) = 0 := rfl
              simp only [List.length_nil] at *
              go_wp2_with fail
              refine HIa.out.mono ?_
              rintro e w3 ⟨rfl, hb3⟩
              have hb4 := hb.trans (hb3.mono hbz)
              have hbw3 := hb2.trans (hb4.mono hz0)
              obtain ⟨d0, d1⟩ := Hcell.out w3 hb4
              have HIb := Lib.hid (HB.out x w3 hbw3)
              rw [HB2.out] at HIb
              clear c0 c1
              go_wp2_with fail
              refine HIb.out.mono ?_
              rintro e w4 ⟨rfl, hb5⟩
              have hb6 := hb3.trans (hb5.mono hb3.size)
              have hb7 := hb.trans (hb6.mono hbz)
              clear d0 d1
              have HO2 := Lib.hid (HownV.out _ hb6)
              go_upto_region 8 with (fail)
              go_big_quiet (fail)
              go_upto_region 10 with (fail)
              obtain ⟨V, hV⟩ : ∃ V, V = w4.drewN nq := ⟨_, rfl⟩
              have hbV : Below w4.heap.size w4 V := by rw [hV]; exact below_drewN2 (Below.refl _ _) _
              rw [← hV]
              clear hV
              have hbwV := hb7.trans (hbV.mono hb7.size)
              have HO3 := Lib.hid (ownsRow_below HO2.out hbV)
              obtain ⟨i0, hi, hz1, hz2, hz3⟩ := info_parts Tryz.perInfo
              have Hi := Lib.hid (And.intro hi (And.intro hz1 (And.intro hz2 hz3)))
              clear hi hz1 hz2 hz3
              obtain ⟨m0, m1⟩ := Hcell.out V hbwV
              have hBV : bq < V.heap.size := Nat.lt_of_lt_of_le hBq hbwV.size
              have Hbl := Lib.hid (fun g hg => ownsRow_block HO3.out g hg)
              have Mk := Lib.hid (show ∀ w' : World, Below w2.heap.size w2 w' → w'.cell? ⟨bq, oq + k, none⟩ = some (.int .i64 x) ∧ w'.cell? ⟨bq, oq + (k + 1), none⟩ = some (.int .i64 y) from Hcell.out)
              go_region_held3 (fun w' : World => w'.cell? ⟨bq, oq + k, none⟩ = some (.int .i64 x) ∧ w'.cell? ⟨bq, oq + (k + 1), none⟩ = some (.int .i64 y))
                (first
                  | exact Mk.out _ (by assumption)
                  | exact Mk.out _ (Below.drew hbwV)
                  | exact Mk.out _ (Below.alloc (Below.drew hbwV) (by have := hbwV.size; exact this) _)
                  | exact Mk.out _ (Below.drew (Below.alloc hbwV hbwV.size _)))
                ((refine step_append_lies _ (by rfl) _ _ _ (by rfl) w2.heap.size 25 i0 _ 2 16 Tryz.underlying85 Hi.out.1 Hi.out.2.1 Hi.out.2.2.1 Hi.out.2.2.2 rfl (by omega) (Value.slice ao 0 co) 0 [] (by rfl) ((HO3.out.alloc _).drew) ⟨V.heap.size, 0, none⟩ 1 1 [.int .i64 x, .int .i64 y] (by rfl) (by rfl) (World.news_of_block (cs := #[.int .i64 x, .int .i64 y]) (t := 25) (fr := (0, 0)) (heap_alloc_new V _)) (by simp [Value.oneCell']) (by omega) (by unfold maxLen; omega) (by omega) (by have := hbwV.size; simp; omega) (V.heap.size + 1) (by simp) ?_; intro gg capg w8 hown8 hgrow8 hat8 hlt8
                  have hY8 : Below w2.heap.size w2 w8 := (Below.drew (Below.alloc hbwV hbwV.size _)).grown hgrow8 (by have := hbwV.size; simp; omega) (fun g hg => (Hbl.out g hg).1)))
              go_wp2
              refine ⟨⟨k + 1, by omega, by go_num, ?_, hY8⟩, by simp [intOf]; omega⟩
              rw [HE.out, chStep_nil, ← List.nil_append [(x, y)], List.length_append, List.flatMap_append]
              exact hown8
            · obtain ⟨M, q, rfl⟩ : ∃ M q, O = M ++ [q] := ⟨_, _, (List.dropLast_concat_getLast hO).symm⟩
              obtain ⟨q1, q2⟩ := q
              clear hO
              obtain ⟨g0, cg, hvv, hgB, hgl, hcell⟩ : ∃ g cap, (Value.slice ao (M ++ [(q1, q2)]).length co) = .slice (some ⟨g, 0, none⟩) (M ++ [(q1, q2)]).length cap ∧ w2.heap.size ≤ g ∧ g < wr.heap.size ∧ wr.cell? ⟨g, M.length * 2 + 1, none⟩ = some (.int .i64 q2) := by
                have h0 := Hown.out
                rcases h0.2 with ⟨-, h1⟩ | ⟨g, cap, cur, hv, hB, hh, -⟩
                · simp at h1
                · rw [hv] at h0
                  refine ⟨g, cap, hv, hB, (Array.getElem?_eq_some_iff.1 hh).1, ?_⟩
                  rw [h0.cellAt (M.length * 2 + 1) (by simp; omega), List.flatMap_append, List.getElem?_append_right (by rw [flat_length perCells 2 (fun _ => rfl)]; omega), flat_length perCells 2 (fun _ => rfl)]
                  simp [perCells]
              simp only [Value.slice.injEq] at hvv
              obtain ⟨rfl, -, rfl⟩ := hvv
              have hlenM : (M ++ [(q1, q2)]).length = M.length + 1 := by simp
              have HownM := Lib.hid (show wr.ownsRow w2.heap.size 25 2 (.slice (some ⟨g0, 0, none⟩) (M.length + 1) co) (M.length + 1) ((M ++ [(q1, q2)]).flatMap perCells) by have h := Hown.out; rwa [hlenM] at h)
              rw [hlenM] at hle hco ⊢
              clear Hown HownV
              have hj1 : IntKind.i64.wrap ((M.length : Int) + 1 - 1) = (M.length : Int) := by rw [Int.add_sub_cancel]; exact IntWalk.i64_in _ (by omega)
              have hj2 : (0 : Int) < (M.length : Int) + 1 := by omega
              have hj3 : ((M.length : Int) + 1).toNat = M.length + 1 := by omega
              have hj4 : IntKind.i64.wrap (M.length : Int) = (M.length : Int) := IntWalk.i64_in _ (by omega)
              have hj5 : (0 : Int) ≤ (M.length : Int) := Int.natCast_nonneg _
              have hj6 : (M.length : Int) < (M.length : Int) + 1 := by omega
              have J := Lib.hid (And.intro hj1 (And.intro hj2 (And.intro hj3 (And.intro hj4 (And.intro hj5 hj6)))))
              have Hcl := Lib.hid hcell
              clear hj1 hj2 hj3 hj4 hj5 hj6 hlenM hcell
              go_wp2_with fail
              refine HIa.out.mono ?_
              rintro e w3 ⟨rfl, hb3⟩
              have hb4 := hb.trans (hb3.mono hbz)
              have hbw3 := hb2.trans (hb4.mono hz0)
              obtain ⟨d0, d1⟩ := Hcell.out w3 hb4
              have HIb := Lib.hid (HB.out x w3 hbw3)
              rw [HB2.out] at HIb
              clear c0 c1
              go_wp2_with fail
              refine HIb.out.mono ?_
              rintro e w4 ⟨rfl, hb5⟩
              have hb6 := hb3.trans (hb5.mono hb3.size)
              have hb7 := hb.trans (hb6.mono hbz)
              clear d0 d1
              have HO2 := Lib.hid (ownsRow_below HownM.out hb6)
              have hcV := Lib.hid ((Below.cell (p := ⟨g0, M.length * 2 + 1, none⟩) hb6 hgl).trans Hcl.out)
              go_upto_region 8 with (fail)
              obtain ⟨d0, d1⟩ := Hcell.out w4 hb7
              have e0 := hcV.out
              obtain ⟨hj1, hj2, hj3, hj4, hj5, hj6⟩ := J.out
              by_cases hq : q2 = x
              · have hq2 : (q2 == x) = true := by rw [hq]; exact beq_self_eq_true _
                have Hq := Lib.hid hq
                clear hq
                go_big_quiet (fail)
                clear hj1 hj2 hj3 hj4 hj5 hj6 d0 d1 e0
                go_upto_region 9 with (fail)
                obtain ⟨V, hV⟩ : ∃ V, V = w4.drewN nq := ⟨_, rfl⟩
                have hbV : Below w4.heap.size w4 V := by rw [hV]; exact below_drewN2 (Below.refl _ _) _
                rw [← hV]
                clear hV
                have hbwV := hb7.trans (hbV.mono hb7.size)
                have HO3 := Lib.hid (ownsRow_below HO2.out hbV)
                obtain ⟨d0, d1⟩ := Hcell.out V hbwV
                have hgl3 : g0 < w4.heap.size := Nat.lt_of_lt_of_le hgl hb6.size
                have e0 : V.cell? ⟨g0, M.length * 2 + 1, none⟩ = some (.int .i64 q2) := (hbV.cell (p := ⟨g0, M.length * 2 + 1, none⟩) hgl3).trans hcV.out
                have e1 : V.frozen? ⟨g0, M.length * 2 + 1, none⟩ = false := HO3.out.frozenAt _
                have hst := HO3.out.stored (M.length * 2 + 1) (.int .i64 y)
                have Hst := Lib.hid hst.1
                clear hst
                obtain ⟨hj1, hj2, hj3, hj4, hj5, hj6⟩ := J.out
                go_wp2
                refine ⟨⟨k + 1, by omega, by go_num, ?_, hbwV.setCell hgB _⟩, by simp [intOf]; omega⟩
                rw [HE.out, chStep_eq M (q1, q2) x y Hq.out, List.length_append]
                have h := Hst.out
                rw [flat_set] at h
                exact h
              · have hq2 : (q2 == x) = false := beq_eq_false_iff_ne.2 hq
                have Hq := Lib.hid hq
                clear hq
                go_big_quiet (fail)
                clear hj1 hj2 hj3 hj4 hj5 hj6 d0 d1 e0
                go_upto_region 10 with (fail)
                obtain ⟨V, hV⟩ : ∃ V, V = w4.drewN nq := ⟨_, rfl⟩
                have hbV : Below w4.heap.size w4 V := by rw [hV]; exact below_drewN2 (Below.refl _ _) _
                rw [← hV]
                clear hV
                have hbwV := hb7.trans (hbV.mono hb7.size)
                have HO3 := Lib.hid (ownsRow_below HO2.out hbV)
                obtain ⟨i0, hi, hz1, hz2, hz3⟩ := info_parts Tryz.perInfo
                have Hi := Lib.hid (And.intro hi (And.intro hz1 (And.intro hz2 hz3)))
                clear hi hz1 hz2 hz3
                obtain ⟨m0, m1⟩ := Hcell.out V hbwV
                have hBV : bq < V.heap.size := Nat.lt_of_lt_of_le hBq hbwV.size
                have Hbl := Lib.hid (fun g hg => ownsRow_block HO3.out g hg)
                have Mk := Lib.hid (show ∀ w' : World, Below w2.heap.size w2 w' → w'.cell? ⟨bq, oq + k, none⟩ = some (.int .i64 x) ∧ w'.cell? ⟨bq, oq + (k + 1), none⟩ = some (.int .i64 y) from Hcell.out)
                go_region_held3 (fun w' : World => w'.cell? ⟨bq, oq + k, none⟩ = some (.int .i64 x) ∧ w'.cell? ⟨bq, oq + (k + 1), none⟩ = some (.int .i64 y))
                  (first
                    | exact Mk.out _ (by assumption)
                    | exact Mk.out _ (Below.drew hbwV)
                    | exact Mk.out _ (Below.alloc (Below.drew hbwV) (by have := hbwV.size; exact this) _)
                    | exact Mk.out _ (Below.drew (Below.alloc hbwV hbwV.size _)))
                  ((refine step_append_lies _ (by rfl) _ _ _ (by rfl) w2.heap.size 25 i0 _ 2 16 Tryz.underlying85 Hi.out.1 Hi.out.2.1 Hi.out.2.2.1 Hi.out.2.2.2 rfl (by omega) (Value.slice (some ⟨g0, 0, none⟩) (M.length + 1) co) (M.length + 1) _ (by rfl) ((HO3.out.alloc _).drew) ⟨V.heap.size, 0, none⟩ 1 1 [.int .i64 x, .int .i64 y] (by rfl) (by rfl) (World.news_of_block (cs := #[.int .i64 x, .int .i64 y]) (t := 25) (fr := (0, 0)) (heap_alloc_new V _)) (by simp [Value.oneCell']) (by omega) (by unfold maxLen; omega) (by omega) (by have := hbwV.size; simp; omega) (V.heap.size + 1) (by simp) ?_; intro gg capg w8 hown8 hgrow8 hat8 hlt8
                    have hY8 : Below w2.heap.size w2 w8 := (Below.drew (Below.alloc hbwV hbwV.size _)).grown hgrow8 (by have := hbwV.size; simp; omega) (fun g hg => (Hbl.out g hg).1)))
                go_wp2
                refine ⟨⟨k + 1, by omega, by go_num, ?_, hY8⟩, by simp [intOf]; omega⟩
                rw [HE.out, chStep_ne M (q1, q2) x y Hq.out, List.length_append, List.flatMap_append]
                have h := hown8
                simpa [perCells] using h
    · have hke : k = l.length - 1 := by omega
      have HE := Lib.hid (show chooseL a b ig inb = chUpto l (selB a b ig inb) k by rw [HC.out, ← hke])
      have hk5 : decide ((k : Int) + 1 < (l.length : Int)) = false := decide_eq_false (by omega)
      clear hke
      generalize chUpto l (selB a b ig inb) k = O at *
      go_wp2
      go_ret
      exact ⟨_, rfl, by rw [HE.out]; exact PersAt.own Hown.out, hbw⟩
end Go.Proofs.YtngippiilgdnoaaGreat

namespace Go.Proofs.YtngippiilgdnoaaGreat
open Go.RowKit

theorem add_done (n : Int) : ∀ (l O : List Int), l.foldl (addStep n) (O, true) = (O ++ l.filter (fun x => decide (x ≠ n)), true) := by
  intro l
  induction l with
  | nil => intro O; simp
  | cons x r ih =>
    intro O
    rw [List.foldl_cons]
    by_cases h : x = n
    · rw [show addStep n (O, true) x = (O, true) by unfold addStep; rw [if_neg (fun h => by cases h.1), if_pos h], ih, List.filter_cons, if_neg (by simp [h])]
    · rw [show addStep n (O, true) x = (O ++ [x], true) by unfold addStep; rw [if_neg (fun h => by cases h.1), if_neg h], ih, List.filter_cons, if_pos (by simpa using h)]
      simp
def addFin (n : Int) (s : List Int × Bool) : List Int := if s.2 = true then s.1 else s.1 ++ [n]
theorem add_from (n : Int) : ∀ (l O : List Int), addFin n (l.foldl (addStep n) (O, false)) = O ++ addFin n (l.foldl (addStep n) ([], false)) := by
  intro l
  induction l with
  | nil => intro O; simp [addFin]
  | cons x r ih =>
    intro O
    rw [List.foldl_cons, List.foldl_cons]
    by_cases h1 : n ≤ x
    · by_cases h2 : x = n
      · rw [show addStep n (O, false) x = (O ++ [n], true) by unfold addStep; rw [if_pos ⟨rfl, h1⟩, if_pos h2], show addStep n ([], false) x = ([] ++ [n], true) by unfold addStep; rw [if_pos ⟨rfl, h1⟩, if_pos h2], add_done, add_done]
        simp [addFin]
      · rw [show addStep n (O, false) x = (O ++ [n] ++ [x], true) by unfold addStep; rw [if_pos ⟨rfl, h1⟩, if_neg h2], show addStep n ([], false) x = ([] ++ [n] ++ [x], true) by unfold addStep; rw [if_pos ⟨rfl, h1⟩, if_neg h2], add_done, add_done]
        simp [addFin]
    · have h2 : x ≠ n := by omega
      rw [show addStep n (O, false) x = (O ++ [x], false) by unfold addStep; rw [if_neg (fun h => h1 h.2), if_neg h2], show addStep n ([], false) x = ([] ++ [x], false) by unfold addStep; rw [if_neg (fun h => h1 h.2), if_neg h2], ih, ih ([] ++ [x])]
      simp
theorem addL_fin (l : List Int) (n : Int) : addL l n = addFin n (l.foldl (addStep n) ([], false)) := rfl
theorem addL_nil (n : Int) : addL [] n = [n] := rfl
theorem addL_lt (x n : Int) (r : List Int) (h : n < x) : addL (x :: r) n = n :: x :: r.filter (fun y => decide (y ≠ n)) := by
  rw [addL_fin, List.foldl_cons, show addStep n ([], false) x = ([] ++ [n] ++ [x], true) by unfold addStep; rw [if_pos ⟨rfl, by omega⟩, if_neg (by omega)], add_done]
  simp [addFin]
theorem addL_same (n : Int) (r : List Int) : addL (n :: r) n = n :: r.filter (fun y => decide (y ≠ n)) := by
  rw [addL_fin, List.foldl_cons, show addStep n ([], false) n = ([] ++ [n], true) by unfold addStep; rw [if_pos ⟨rfl, Int.le_refl _⟩, if_pos rfl], add_done]
  simp [addFin]
theorem addL_gt (x n : Int) (r : List Int) (h : x < n) : addL (x :: r) n = x :: addL r n := by
  rw [addL_fin, List.foldl_cons, show addStep n ([], false) x = ([] ++ [x], false) by unfold addStep; rw [if_neg (fun h => by omega), if_neg (by omega)], add_from]
  rfl

end Go.Proofs.YtngippiilgdnoaaGreat

namespace Go.Proofs.YtngippiilgdnoaaGreat
open Go.RowKit

theorem common_calls (va vb : Value) (a b : List (Int × Int)) (w : World) (ha : PersAt w va a) (hb : PersAt w vb b) (hn : a.length + b.length ≤ 2000) :
    Calls Tryz.prog 64 #[va, vb] w (PersTo w (chooseL a b false true)) := by
  have H := Lib.hid (choose_calls va vb a b false true w ha hb hn)
  obtain ⟨aa, ca, rfl, -⟩ := ha
  obtain ⟨ab, cb, rfl, -⟩ := hb
  go_enter Tryz.func64, Tryz.ntmps64
  go_wp2_with fail
  refine H.out.mono ?_
  rintro e w1 ⟨v1, rfl, hp, hb1⟩
  have HP := Lib.hid hp
  obtain ⟨a1, c1, rfl, -⟩ := hp
  go_wp2
  go_ret
  exact ⟨_, rfl, HP.out, hb1⟩

end Go.Proofs.YtngippiilgdnoaaGreat

namespace Go.Proofs.YtngippiilgdnoaaGreat
open Go.RowKit

/-- Is an instant in one of periods, whatever they are? -/
def MemP (C : List (Int × Int)) (x : Int) : Prop := ∃ q ∈ C, q.1 ≤ x ∧ x < q.2
/-- A canonical list: periods that are not empty, in order, with gaps between them. -/
def Can : List (Int × Int) → Prop
  | [] => True
  | p :: r => p.1 < p.2 ∧ (∀ q ∈ r, p.2 < q.1) ∧ Can r

theorem memP_nil (x : Int) : ¬ MemP [] x := by rintro ⟨q, hq, -⟩; cases hq
theorem memP_cons (p : Int × Int) (r : List (Int × Int)) (x : Int) : MemP (p :: r) x ↔ (p.1 ≤ x ∧ x < p.2) ∨ MemP r x := by
  constructor
  · rintro ⟨q, hq, h⟩
    rcases List.mem_cons.1 hq with rfl | hq
    · exact Or.inl h
    · exact Or.inr ⟨q, hq, h⟩
  · rintro (h | ⟨q, hq, h⟩)
    · exact ⟨p, by simp, h⟩
    · exact ⟨q, by simp [hq], h⟩
theorem memP_append (a b : List (Int × Int)) (x : Int) : MemP (a ++ b) x ↔ MemP a x ∨ MemP b x := by
  constructor
  · rintro ⟨q, hq, h⟩
    rcases List.mem_append.1 hq with hq | hq
    · exact Or.inl ⟨q, hq, h⟩
    · exact Or.inr ⟨q, hq, h⟩
  · rintro (⟨q, hq, h⟩ | ⟨q, hq, h⟩)
    · exact ⟨q, List.mem_append_left _ hq, h⟩
    · exact ⟨q, List.mem_append_right _ hq, h⟩

theorem can_rest {p : Int × Int} {r : List (Int × Int)} (h : Can (p :: r)) {x : Int} (hx : MemP r x) : p.2 < x := by
  obtain ⟨q, hq, h1, -⟩ := hx
  have := h.2.1 q hq
  omega

/-- Two canonical lists with the same instants are the same. -/
theorem can_unique : ∀ (C D : List (Int × Int)), Can C → Can D → (∀ x, MemP C x ↔ MemP D x) → C = D := by
  intro C
  induction C with
  | nil =>
    intro D _ hD h
    cases D with
    | nil => rfl
    | cons p r => exact absurd ((h p.1).2 ⟨p, by simp, Int.le_refl _, hD.1⟩) (memP_nil _)
  | cons p r ih =>
    intro D hC hD h
    cases D with
    | nil => exact absurd ((h p.1).1 ⟨p, by simp, Int.le_refl _, hC.1⟩) (memP_nil _)
    | cons q s =>
      have e1 : p.1 = q.1 := by
        have a1 := (h p.1).1 ⟨p, by simp, Int.le_refl _, hC.1⟩
        have a2 := (h q.1).2 ⟨q, by simp, Int.le_refl _, hD.1⟩
        rcases (memP_cons q s p.1).1 a1 with b1 | b1 <;> rcases (memP_cons p r q.1).1 a2 with b2 | b2
        · omega
        · have := can_rest hC b2; have := hC.1; omega
        · have := can_rest hD b1; have := hD.1; omega
        · have := can_rest hD b1; have := can_rest hC b2; have := hC.1; have := hD.1; omega
      have e2 : p.2 = q.2 := by
        have hp := hC.1
        have hq := hD.1
        rcases Int.lt_trichotomy p.2 q.2 with hlt | heq | hgt
        · have a1 := (h p.2).2 ⟨q, by simp, by omega, hlt⟩
          rcases (memP_cons p r p.2).1 a1 with b | b
          · omega
          · have := can_rest hC b; omega
        · exact heq
        · have a1 := (h q.2).1 ⟨p, by simp, by omega, hgt⟩
          rcases (memP_cons q s q.2).1 a1 with b | b
          · omega
          · have := can_rest hD b; omega
      have epq : p = q := Prod.ext e1 e2
      subst epq
      congr 1
      refine ih s hC.2.2 hD.2.2 fun x => ⟨fun hx => ?_, fun hx => ?_⟩
      · have h1 := can_rest hC hx
        rcases (memP_cons p s x).1 ((h x).1 ((memP_cons p r x).2 (Or.inr hx))) with b | b
        · omega
        · exact b
      · have h1 := can_rest hD hx
        rcases (memP_cons p r x).1 ((h x).2 ((memP_cons p s x).2 (Or.inr hx))) with b | b
        · omega
        · exact b

theorem can_snoc : ∀ (M : List (Int × Int)) (p : Int × Int), Can (M ++ [p]) ↔ Can M ∧ p.1 < p.2 ∧ ∀ q ∈ M, q.2 < p.1 := by
  intro M
  induction M with
  | nil => intro p; simp [Can]
  | cons a M ih =>
    intro p
    rw [List.cons_append, Can, Can, ih]
    constructor
    · rintro ⟨h1, h2, h3, h4, h5⟩
      refine ⟨⟨h1, fun q hq => h2 q (List.mem_append_left _ hq), h3⟩, h4, fun q hq => ?_⟩
      rcases List.mem_cons.1 hq with rfl | hq
      · exact h2 p (by simp)
      · exact h5 q hq
    · rintro ⟨⟨h1, h2, h3⟩, h4, h5⟩
      refine ⟨h1, fun q hq => ?_, h3, h4, fun q hq => h5 q (by simp [hq])⟩
      rcases List.mem_append.1 hq with hq | hq
      · exact h2 q hq
      · rw [List.mem_singleton.1 hq]; exact h5 a (by simp)

/-! ### The limits -/
theorem mem_addL : ∀ (l : List Int) (n x : Int), x ∈ addL l n ↔ x = n ∨ x ∈ l := by
  intro l
  induction l with
  | nil => intro n x; rw [addL_nil]; simp
  | cons y r ih =>
    intro n x
    rcases Int.lt_trichotomy n y with h | h | h
    · rw [addL_lt y n r h]
      simp only [List.mem_cons, List.mem_filter, decide_eq_true_eq]
      constructor
      · rintro (h | h | ⟨h, -⟩)
        · exact Or.inl h
        · exact Or.inr (Or.inl h)
        · exact Or.inr (Or.inr h)
      · rintro (h | h | h)
        · exact Or.inl h
        · exact Or.inr (Or.inl h)
        · by_cases e : x = n
          · exact Or.inl e
          · exact Or.inr (Or.inr ⟨h, e⟩)
    · subst h
      rw [addL_same]
      simp only [List.mem_cons, List.mem_filter, decide_eq_true_eq]
      constructor
      · rintro (h | ⟨h, -⟩)
        · exact Or.inl h
        · exact Or.inr (Or.inr h)
      · rintro (h | h | h)
        · exact Or.inl h
        · exact Or.inl h
        · by_cases e : x = n
          · exact Or.inl e
          · exact Or.inr ⟨h, e⟩
    · rw [addL_gt y n r h, List.mem_cons, ih]
      simp only [List.mem_cons]
      constructor
      · rintro (h | h | h)
        · exact Or.inr (Or.inl h)
        · exact Or.inl h
        · exact Or.inr (Or.inr h)
      · rintro (h | h | h)
        · exact Or.inr (Or.inl h)
        · exact Or.inl h
        · exact Or.inr (Or.inr h)

theorem sorted_addL : ∀ (l : List Int) (n : Int), l.Pairwise (· < ·) → (addL l n).Pairwise (· < ·) := by
  intro l
  induction l with
  | nil => intro n _; rw [addL_nil]; simp
  | cons y r ih =>
    intro n h
    obtain ⟨h1, h2⟩ := List.pairwise_cons.1 h
    rcases Int.lt_trichotomy n y with hn | hn | hn
    · rw [addL_lt y n r hn]
      refine List.pairwise_cons.2 ⟨fun z hz => ?_, List.pairwise_cons.2 ⟨fun z hz => h1 z (List.mem_filter.1 hz).1, h2.filter _⟩⟩
      rcases List.mem_cons.1 hz with rfl | hz
      · exact hn
      · have := h1 z (List.mem_filter.1 hz).1; omega
    · subst hn
      rw [addL_same]
      exact List.pairwise_cons.2 ⟨fun z hz => h1 z (List.mem_filter.1 hz).1, h2.filter _⟩
    · rw [addL_gt y n r hn]
      refine List.pairwise_cons.2 ⟨fun z hz => ?_, ih n h2⟩
      rcases (mem_addL r n z).1 hz with rfl | hz
      · exact hn
      · exact h1 z hz

theorem sorted_limits : ∀ (ps : List (Int × Int)) (l : List Int), l.Pairwise (· < ·) → (limitsL l ps).Pairwise (· < ·) := by
  intro ps
  induction ps with
  | nil => intro l h; exact h
  | cons p r ih =>
    intro l h
    refine ih _ ?_
    show (limStep l p).Pairwise (· < ·)
    unfold limStep
    split
    · exact sorted_addL _ _ (sorted_addL _ _ h)
    · exact h
theorem mem_limits : ∀ (ps : List (Int × Int)) (l : List Int) (x : Int), x ∈ limitsL l ps ↔ x ∈ l ∨ ∃ p ∈ ps, validB p.1 p.2 = true ∧ (x = p.1 ∨ x = p.2) := by
  intro ps
  induction ps with
  | nil => intro l x; simp [limitsL]
  | cons p r ih =>
    intro l x
    show x ∈ limitsL (limStep l p) r ↔ _
    rw [ih]
    unfold limStep
    by_cases hv : validB p.1 p.2 = true
    · rw [if_pos hv, mem_addL, mem_addL]
      constructor
      · rintro ((h | h | h) | ⟨q, hq, h⟩)
        · exact Or.inr ⟨p, by simp, hv, Or.inr h⟩
        · exact Or.inr ⟨p, by simp, hv, Or.inl h⟩
        · exact Or.inl h
        · exact Or.inr ⟨q, by simp [hq], h⟩
      · rintro (h | ⟨q, hq, h⟩)
        · exact Or.inl (Or.inr (Or.inr h))
        · rcases List.mem_cons.1 hq with rfl | hq
          · rcases h.2 with h | h
            · exact Or.inl (Or.inr (Or.inl h))
            · exact Or.inl (Or.inl h)
          · exact Or.inr ⟨q, hq, h⟩
    · rw [if_neg hv]
      constructor
      · rintro (h | ⟨q, hq, h⟩)
        · exact Or.inl h
        · exact Or.inr ⟨q, by simp [hq], h⟩
      · rintro (h | ⟨q, hq, h⟩)
        · exact Or.inl h
        · rcases List.mem_cons.1 hq with rfl | hq
          · exact absurd h.1 hv
          · exact Or.inr ⟨q, hq, h⟩
end Go.Proofs.YtngippiilgdnoaaGreat

namespace Go.Proofs.YtngippiilgdnoaaGreat
open Go.RowKit

theorem can_ends {C : List (Int × Int)} (h : Can C) : ∀ q ∈ C, q.1 < q.2 := by
  induction C with
  | nil => intro q hq; cases hq
  | cons p r ih =>
    intro q hq
    rcases List.mem_cons.1 hq with rfl | hq
    · exact h.1
    · exact ih h.2.2 q hq
theorem memP_snoc (M : List (Int × Int)) (p : Int × Int) (x : Int) : MemP (M ++ [p]) x ↔ MemP M x ∨ (p.1 ≤ x ∧ x < p.2) := by
  rw [memP_append, memP_cons]
  exact ⟨fun h => h.imp id fun h => h.elim id fun h => absurd h (memP_nil x), fun h => h.imp id Or.inl⟩

/-- A piece more keeps the list canonical, and adds its instants. -/
theorem chStep_law (O : List (Int × Int)) (x y : Int) (hO : Can O) (hxy : x < y) (hq : ∀ q ∈ O, q.2 ≤ x) :
    Can (chStep O x y) ∧ (∀ q ∈ chStep O x y, q.2 ≤ y) ∧ ∀ z, MemP (chStep O x y) z ↔ MemP O z ∨ (x ≤ z ∧ z < y) := by
  by_cases h : O = []
  · subst h
    rw [chStep_nil]
    refine ⟨⟨hxy, fun q hq => (by cases hq), trivial⟩, fun q hq => ?_, fun z => ?_⟩
    · rw [List.mem_singleton.1 hq]; exact Int.le_refl _
    · exact memP_snoc [] (x, y) z
  · obtain ⟨M, q, rfl⟩ : ∃ M z, O = M ++ [z] := ⟨_, _, (List.dropLast_concat_getLast h).symm⟩
    obtain ⟨c1, c2, c3⟩ := (can_snoc M q).1 hO
    have hq2 := hq q (by simp)
    by_cases hz : q.2 = x
    · rw [chStep_eq M q x y hz]
      refine ⟨(can_snoc M (q.1, y)).2 ⟨c1, by show q.1 < y; omega, c3⟩, fun p hp => ?_, fun z => ?_⟩
      · rcases List.mem_append.1 hp with hp | hp
        · have := hq p (List.mem_append_left _ hp); omega
        · rw [List.mem_singleton.1 hp]; exact Int.le_refl _
      · rw [memP_snoc, memP_snoc, or_assoc]
        refine or_congr Iff.rfl ?_
        show q.1 ≤ z ∧ z < y ↔ _
        omega
    · rw [chStep_ne M q x y hz]
      refine ⟨(can_snoc (M ++ [q]) (x, y)).2 ⟨hO, hxy, fun p hp => ?_⟩, fun p hp => ?_, fun z => memP_snoc _ _ z⟩
      · show p.2 < x
        rcases List.mem_append.1 hp with hp | hp
        · have := c3 p hp; omega
        · rw [List.mem_singleton.1 hp]; omega
      · rcases List.mem_append.1 hp with hp | hp
        · have := hq p hp; omega
        · rw [List.mem_singleton.1 hp]; exact Int.le_refl _

theorem sorted_next {l : List Int} (h : l.Pairwise (· < ·)) {i j : Nat} (hij : i < j) (hj : j < l.length) : l.getD i 0 < l.getD j 0 := by
  rw [getD_at l i 0 (by omega), getD_at l j 0 hj]
  exact List.pairwise_iff_getElem.1 h i j (by omega) hj hij
theorem sorted_upto {l : List Int} (h : l.Pairwise (· < ·)) {i j : Nat} (hij : i ≤ j) (hj : j < l.length) : l.getD i 0 ≤ l.getD j 0 := by
  rcases Nat.lt_or_eq_of_le hij with h1 | h1
  · exact Int.le_of_lt (sorted_next h h1 hj)
  · subst h1; exact Int.le_refl _

theorem chUpto_law (l : List Int) (sel : Int → Bool) (hl : l.Pairwise (· < ·)) : ∀ k, (k = 0 ∨ k < l.length) →
    Can (chUpto l sel k) ∧ (∀ q ∈ chUpto l sel k, q.2 ≤ l.getD k 0) ∧ ∀ z, MemP (chUpto l sel k) z ↔ ∃ i, i < k ∧ sel (l.getD i 0) = true ∧ l.getD i 0 ≤ z ∧ z < l.getD (i + 1) 0 := by
  intro k
  induction k with
  | zero =>
    intro _
    refine ⟨trivial, fun q hq => (by cases hq), fun z => ⟨fun h => absurd h (memP_nil z), ?_⟩⟩
    rintro ⟨i, hi, -⟩
    omega
  | succ k ih =>
    intro hk
    have hk : k + 1 < l.length := by omega
    obtain ⟨i1, i2, i3⟩ := ih (by omega)
    have hlt : l.getD k 0 < l.getD (k + 1) 0 := sorted_next hl (Nat.lt_succ_self k) hk
    rw [chUpto]
    by_cases hs : sel (l.getD k 0) = true
    · rw [if_pos hs]
      obtain ⟨j1, j2, j3⟩ := chStep_law (chUpto l sel k) (l.getD k 0) (l.getD (k + 1) 0) i1 hlt i2
      refine ⟨j1, j2, fun z => ?_⟩
      rw [j3, i3]
      constructor
      · rintro (⟨i, h1, h2⟩ | h)
        · exact ⟨i, by omega, h2⟩
        · exact ⟨k, by omega, hs, h⟩
      · rintro ⟨i, h1, h2⟩
        rcases Nat.lt_or_eq_of_le (Nat.le_of_lt_succ h1) with h3 | h3
        · exact Or.inl ⟨i, h3, h2⟩
        · subst h3; exact Or.inr h2.2
    · rw [if_neg hs]
      refine ⟨i1, fun q hq => by have := i2 q hq; omega, fun z => ?_⟩
      rw [i3]
      constructor
      · rintro ⟨i, h1, h2⟩; exact ⟨i, by omega, h2⟩
      · rintro ⟨i, h1, h2⟩
        rcases Nat.lt_or_eq_of_le (Nat.le_of_lt_succ h1) with h3 | h3
        · exact ⟨i, h3, h2⟩
        · subst h3; exact absurd h2.1 hs

/-- An instant between the first limit and the last lies in one piece. -/
theorem piece_of (l : List Int) (x : Int) : ∀ k, l.getD 0 0 ≤ x → x < l.getD k 0 → ∃ i, i < k ∧ l.getD i 0 ≤ x ∧ x < l.getD (i + 1) 0 := by
  intro k
  induction k with
  | zero => intro h1 h2; omega
  | succ k ih =>
    intro h1 h2
    by_cases h : x < l.getD k 0
    · obtain ⟨i, hi, h3⟩ := ih h1 h
      exact ⟨i, by omega, h3⟩
    · exact ⟨k, by omega, by omega, h2⟩

theorem inL_iff (ps : List (Int × Int)) (x : Int) : inL ps x = true ↔ ∃ p ∈ ps, validB p.1 p.2 = true ∧ p.1 ≤ x ∧ x < p.2 := by
  unfold inL
  rw [List.any_eq_true]
  refine exists_congr fun p => and_congr Iff.rfl ?_
  rw [containsB_iff, validB_iff]

/-- Within a piece, membership does not change. -/
theorem inL_piece (l : List Int) (ps : List (Int × Int)) (hl : l.Pairwise (· < ·)) (hm : ∀ p ∈ ps, validB p.1 p.2 = true → p.1 ∈ l ∧ p.2 ∈ l) (i : Nat) (hi : i + 1 < l.length) (x : Int)
    (h1 : l.getD i 0 ≤ x) (h2 : x < l.getD (i + 1) 0) : inL ps x = inL ps (l.getD i 0) := by
  have key : ∀ y ∈ l, (y ≤ x ↔ y ≤ l.getD i 0) := by
    intro y hy
    obtain ⟨j, hj, rfl⟩ := List.mem_iff_getElem.1 hy
    rw [← getD_at l j 0 hj]
    rcases Nat.lt_or_ge i j with h | h
    · have := sorted_upto hl (Nat.succ_le_of_lt h) hj
      have := sorted_next hl h hj
      simp only [Nat.succ_eq_add_one] at *
      omega
    · have := sorted_upto hl h (by omega)
      omega
  rw [Bool.eq_iff_iff, inL_iff, inL_iff]
  refine exists_congr fun p => and_congr_right fun hp => and_congr_right fun hv => ?_
  have k1 := key _ (hm p hp hv).1
  have k2 := key _ (hm p hp hv).2
  omega

theorem inL_sorted (l : List Int) (ps : List (Int × Int)) (hl : l.Pairwise (· < ·)) (hm : ∀ p ∈ ps, validB p.1 p.2 = true → p.1 ∈ l ∧ p.2 ∈ l) (x : Int) (h : inL ps x = true) :
    ∃ i, i < l.length - 1 ∧ l.getD i 0 ≤ x ∧ x < l.getD (i + 1) 0 := by
  obtain ⟨p, hp, hv, h1, h2⟩ := (inL_iff ps x).1 h
  obtain ⟨m1, m2⟩ := hm p hp hv
  obtain ⟨j, hj, e1⟩ := List.mem_iff_getElem.1 m1
  obtain ⟨k, hk, e2⟩ := List.mem_iff_getElem.1 m2
  rw [← getD_at l j 0 hj] at e1
  rw [← getD_at l k 0 hk] at e2
  have a1 := sorted_upto hl (Nat.zero_le j) hj
  have a2 := sorted_upto hl (show k ≤ l.length - 1 by omega) (by omega)
  exact piece_of l x (l.length - 1) (by omega) (by omega)

/-- What choose gives: canonical, with the chosen instants. -/
theorem choose_law (a b : List (Int × Int)) (ig inb : Bool) : Can (chooseL a b ig inb) ∧ ∀ x, MemP (chooseL a b ig inb) x ↔ selB a b ig inb x = true := by
  have hl : (limitsL (limitsL [] a) b).Pairwise (· < ·) := sorted_limits b _ (sorted_limits a [] List.Pairwise.nil)
  have hma : ∀ p ∈ a, validB p.1 p.2 = true → p.1 ∈ limitsL (limitsL [] a) b ∧ p.2 ∈ limitsL (limitsL [] a) b := by
    intro p hp hv
    exact ⟨(mem_limits b _ _).2 (Or.inl ((mem_limits a _ _).2 (Or.inr ⟨p, hp, hv, Or.inl rfl⟩))), (mem_limits b _ _).2 (Or.inl ((mem_limits a _ _).2 (Or.inr ⟨p, hp, hv, Or.inr rfl⟩)))⟩
  have hmb : ∀ p ∈ b, validB p.1 p.2 = true → p.1 ∈ limitsL (limitsL [] a) b ∧ p.2 ∈ limitsL (limitsL [] a) b := by
    intro p hp hv
    exact ⟨(mem_limits b _ _).2 (Or.inr ⟨p, hp, hv, Or.inl rfl⟩), (mem_limits b _ _).2 (Or.inr ⟨p, hp, hv, Or.inr rfl⟩)⟩
  obtain ⟨c1, -, c3⟩ := chUpto_law (limitsL (limitsL [] a) b) (selB a b ig inb) hl ((limitsL (limitsL [] a) b).length - 1) (by omega)
  refine ⟨c1, fun x => ?_⟩
  unfold chooseL
  rw [c3]
  have same : ∀ i, i < (limitsL (limitsL [] a) b).length - 1 → (limitsL (limitsL [] a) b).getD i 0 ≤ x → x < (limitsL (limitsL [] a) b).getD (i + 1) 0 → selB a b ig inb x = selB a b ig inb ((limitsL (limitsL [] a) b).getD i 0) := by
    intro i hi h1 h2
    unfold selB
    rw [inL_piece _ a hl hma i (by omega) x h1 h2, inL_piece _ b hl hmb i (by omega) x h1 h2]
  constructor
  · rintro ⟨i, hi, hs, h1, h2⟩
    rw [same i hi h1 h2]; exact hs
  · intro h
    have ha : inL a x = true := by
      unfold selB at h
      rw [Bool.and_eq_true] at h
      exact h.1
    obtain ⟨i, hi, h1, h2⟩ := inL_sorted _ a hl hma x ha
    exact ⟨i, hi, by rw [← same i hi h1 h2]; exact h, h1, h2⟩
end Go.Proofs.YtngippiilgdnoaaGreat

namespace Go.Proofs.YtngippiilgdnoaaGreat
open Go.RowKit

end Go.Proofs.YtngippiilgdnoaaGreat

namespace Go.Proofs.YtngippiilgdnoaaGreat
open Go.RowKit

end Go.Proofs.YtngippiilgdnoaaGreat

namespace Go.Proofs.YtngippiilgdnoaaGreat
open Go.RowKit

theorem choose_in (a b : List (Int × Int)) (ig inb : Bool) : ∀ q ∈ chooseL a b ig inb, 0 ≤ q.1 ∧ q.1 < q.2 ∧ q.2 ≤ 12622780800 := by
  intro q hq
  obtain ⟨h1, h2⟩ := choose_law a b ig inb
  have h3 := can_ends h1 q hq
  have inA : ∀ x, q.1 ≤ x → x < q.2 → 0 ≤ x ∧ x < 12622780800 := by
    intro x g1 g2
    have g := (h2 x).1 ⟨q, hq, g1, g2⟩
    unfold selB at g
    rw [Bool.and_eq_true] at g
    obtain ⟨p, -, hv, k1, k2⟩ := (inL_iff a x).1 g.1
    have := (validB_iff _ _).1 hv
    omega
  have g1 := inA q.1 (Int.le_refl _) h3
  have g2 := inA (q.2 - 1) (by omega) (by omega)
  omega
theorem choose_len (a b : List (Int × Int)) (ig inb : Bool) : (chooseL a b ig inb).length ≤ 2 * (a.length + b.length) := by
  have h1 := chUpto_len (limitsL (limitsL [] a) b) (selB a b ig inb) ((limitsL (limitsL [] a) b).length - 1)
  have h2 := limits_len [] a
  have h3 := limits_len (limitsL [] a) b
  rw [List.length_nil] at h2
  unfold chooseL
  omega

end Go.Proofs.YtngippiilgdnoaaGreat

namespace Go.Proofs.YtngippiilgdnoaaGreat
open Go.RowKit

/-- The changes of a list's valid periods: instant, list, by. -/
def chg (j : Int) (ps : List (Int × Int)) : List (Int × Int × Int) := ps.flatMap fun p => if validB p.1 p.2 = true then [(p.1, j, 1), (p.2, j, -1)] else []
/-- The sum of the changes of a list up to an instant. -/
def cnt (j x : Int) : List (Int × Int × Int) → Int
  | [] => 0
  | c :: r => (if c.2.1 = j ∧ c.1 ≤ x then c.2.2 else 0) + cnt j x r
theorem cnt_append (j x : Int) (a b : List (Int × Int × Int)) : cnt j x (a ++ b) = cnt j x a + cnt j x b := by
  induction a with
  | nil => show cnt j x b = 0 + cnt j x b; omega
  | cons c r ih => show (if c.2.1 = j ∧ c.1 ≤ x then c.2.2 else 0) + cnt j x (r ++ b) = (if c.2.1 = j ∧ c.1 ≤ x then c.2.2 else 0) + cnt j x r + cnt j x b; rw [ih]; omega
theorem cnt_perm (j x : Int) {a b : List (Int × Int × Int)} (h : a.Perm b) : cnt j x a = cnt j x b := by
  induction h with
  | nil => rfl
  | cons c _ ih => show _ + cnt j x _ = _ + cnt j x _; rw [ih]
  | swap c d l =>
    show (if d.2.1 = j ∧ d.1 ≤ x then d.2.2 else 0) + ((if c.2.1 = j ∧ c.1 ≤ x then c.2.2 else 0) + cnt j x l) = (if c.2.1 = j ∧ c.1 ≤ x then c.2.2 else 0) + ((if d.2.1 = j ∧ d.1 ≤ x then d.2.2 else 0) + cnt j x l)
    omega
  | trans _ _ h1 h2 => exact h1.trans h2
theorem cnt_late (j x : Int) (l : List (Int × Int × Int)) (h : ∀ c ∈ l, x < c.1) : cnt j x l = 0 := by
  induction l with
  | nil => rfl
  | cons c r ih =>
    have h1 := h c (by simp)
    show (if c.2.1 = j ∧ c.1 ≤ x then c.2.2 else 0) + cnt j x r = 0
    rw [ih fun d hd => h d (by simp [hd]), if_neg (by omega)]
    rfl
theorem chg_cons (j : Int) (p : Int × Int) (r : List (Int × Int)) : chg j (p :: r) = (if validB p.1 p.2 = true then [(p.1, j, 1), (p.2, j, -1)] else []) ++ chg j r := rfl
theorem cnt_other (j i x : Int) (hij : i ≠ j) (ps : List (Int × Int)) : cnt j x (chg i ps) = 0 := by
  induction ps with
  | nil => rfl
  | cons p r ih =>
    rw [chg_cons, cnt_append, ih]
    split
    · simp [cnt, hij]
    · rfl
theorem cnt_own (j x : Int) (ps : List (Int × Int)) : 0 ≤ cnt j x (chg j ps) ∧ (0 < cnt j x (chg j ps) ↔ inL ps x = true) := by
  induction ps with
  | nil => exact ⟨Int.le_refl _, by simp [chg, cnt, inL]⟩
  | cons p r ih =>
    have e : inL (p :: r) x = (containsB p.1 p.2 x || inL r x) := rfl
    rw [chg_cons, cnt_append, e, Bool.or_eq_true, ← ih.2, containsB_iff, ← validB_iff]
    by_cases hv : validB p.1 p.2 = true
    · have hv2 := (validB_iff _ _).1 hv
      rw [if_pos hv]
      have e2 : cnt j x [(p.1, j, 1), (p.2, j, -1)] = (if p.1 ≤ x then 1 else 0) + (if p.2 ≤ x then -1 else 0) := by simp [cnt]
      rw [e2]
      have := ih.1
      simp only [hv, true_and]
      split <;> split <;> constructor <;> omega
    · rw [if_neg hv]
      have := ih.1
      have e3 : cnt j x [] + cnt j x (chg j r) = cnt j x (chg j r) := by show 0 + _ = _; omega
      refine ⟨by omega, ?_⟩
      constructor
      · intro h; exact Or.inr (by omega)
      · rintro (h | h)
        · exact absurd h.1 hv
        · omega

/-- The sweep's state: the two counters, whether it is inside, what it has found. -/
def bump (o : Int × Int) (c : Int × Int × Int) : Int × Int := if c.2.1 = 0 then (o.1 + c.2.2, o.2) else (o.1, o.2 + c.2.2)
def swOut (O : List (Int × Int)) (ins now : Bool) (t : Int) : List (Int × Int) :=
  if now = true ∧ ins = false then O ++ [(t, 0)] else if now = false ∧ ins = true then O.dropLast ++ [((O.getLast?.getD (0, 0)).1, t)] else O
def swStep (is : Bool → Bool → Bool) (S : List (Int × Int × Int)) (k : Nat) (s : (Int × Int) × Bool × List (Int × Int)) : (Int × Int) × Bool × List (Int × Int) :=
  let c := S.getD k (0, 0, 0)
  let o := bump s.1 c
  if k + 1 < S.length ∧ (S.getD (k + 1) (0, 0, 0)).1 = c.1 then (o, s.2)
  else (o, is (decide (0 < o.1)) (decide (0 < o.2)), swOut s.2.2 s.2.1 (is (decide (0 < o.1)) (decide (0 < o.2))) c.1)
def swUpto (is : Bool → Bool → Bool) (S : List (Int × Int × Int)) : Nat → (Int × Int) × Bool × List (Int × Int)
  | 0 => ((0, 0), false, [])
  | k + 1 => swStep is S k (swUpto is S k)

/-- The sum of a list's changes. -/
def totC (j : Int) : List (Int × Int × Int) → Int
  | [] => 0
  | c :: r => (if c.2.1 = j then c.2.2 else 0) + totC j r
theorem tot_snoc (j : Int) (l : List (Int × Int × Int)) (c : Int × Int × Int) : totC j (l ++ [c]) = totC j l + (if c.2.1 = j then c.2.2 else 0) := by
  induction l with
  | nil => show _ + 0 = 0 + _; omega
  | cons d r ih => show _ + totC j (r ++ [c]) = _ + totC j r + _; rw [ih]; omega
theorem cnt_tot (j x : Int) (l : List (Int × Int × Int)) (h : ∀ c ∈ l, c.1 ≤ x) : cnt j x l = totC j l := by
  induction l with
  | nil => rfl
  | cons c r ih =>
    have h1 := h c (by simp)
    show (if c.2.1 = j ∧ c.1 ≤ x then c.2.2 else 0) + cnt j x r = (if c.2.1 = j then c.2.2 else 0) + totC j r
    rw [ih fun d hd => h d (by simp [hd])]
    by_cases e : c.2.1 = j
    · rw [if_pos ⟨e, h1⟩, if_pos e]
    · rw [if_neg fun h => e h.1, if_neg e]
theorem sw_open (is : Bool → Bool → Bool) (S : List (Int × Int × Int)) (hl : ∀ c ∈ S, c.2.1 = 0 ∨ c.2.1 = 1) : ∀ k, k ≤ S.length → (swUpto is S k).1 = (totC 0 (S.take k), totC 1 (S.take k)) := by
  intro k
  induction k with
  | zero => intro _; rfl
  | succ k ih =>
    intro hk
    have hk' : k < S.length := hk
    have e1 : (swUpto is S (k + 1)).1 = bump (swUpto is S k).1 (S.getD k (0, 0, 0)) := by
      show (swStep is S k (swUpto is S k)).1 = _
      unfold swStep
      simp only []
      split <;> rfl
    have e2 : S.getD k (0, 0, 0) = S[k] := by simp [List.getD, hk']
    rw [e1, ih (by omega), e2, List.take_succ_eq_append_getElem hk', tot_snoc, tot_snoc]
    unfold bump
    rcases hl S[k] (List.getElem_mem hk') with h | h
    · rw [if_pos h, if_pos h, if_neg (by omega)]
      simp
    · rw [if_neg (by omega), if_neg (by omega), if_pos h]
      simp
end Go.Proofs.YtngippiilgdnoaaGreat

namespace Go.Proofs.YtngippiilgdnoaaGreat
open Go.RowKit

/-- Before the change of number k (all instants, when there is none). -/
def Bef (S : List (Int × Int × Int)) (k : Nat) (x : Int) : Prop := k < S.length → x < (S.getD k (0, 0, 0)).1
/-- What the sweep holds ahead of the change of number k. -/
def SwInv (S : List (Int × Int × Int)) (P : Int → Bool) (k : Nat) (ins : Bool) (O : List (Int × Int)) : Prop :=
  (ins = false ∧ Can O ∧ (∀ q ∈ O, Bef S k q.2) ∧ ∀ x, Bef S k x → (MemP O x ↔ P x = true)) ∨
  (ins = true ∧ ∃ M s, O = M ++ [(s, 0)] ∧ Can M ∧ (∀ q ∈ M, q.2 < s) ∧ Bef S k s ∧ ∀ x, Bef S k x → ((MemP M x ∨ s ≤ x) ↔ P x = true))

theorem mem_before {M : List (Int × Int)} {s x : Int} (h : ∀ q ∈ M, q.2 < s) (hx : MemP M x) : x < s := by
  obtain ⟨q, hq, -, h2⟩ := hx
  have := h q hq
  omega

theorem sw_law (is : Bool → Bool → Bool) (S : List (Int × Int × Int)) (A B : Int → Bool) (h00 : is false false = false) (hl : ∀ c ∈ S, c.2.1 = 0 ∨ c.2.1 = 1) (hs : S.Pairwise (fun c d => c.1 ≤ d.1))
    (hA : ∀ x, 0 < cnt 0 x S ↔ A x = true) (hB : ∀ x, 0 < cnt 1 x S ↔ B x = true) :
    ∀ k, k ≤ S.length → SwInv S (fun x => is (A x) (B x)) k (swUpto is S k).2.1 (swUpto is S k).2.2 := by
  have dA : ∀ x, A x = decide (0 < cnt 0 x S) := fun x => by rw [Bool.eq_iff_iff, decide_eq_true_eq, hA]
  have dB : ∀ x, B x = decide (0 < cnt 1 x S) := fun x => by rw [Bool.eq_iff_iff, decide_eq_true_eq, hB]
  have at_ : ∀ i (h : i < S.length), S.getD i (0, 0, 0) = S[i] := fun i h => by simp [List.getD, h]
  have ord : ∀ i j (hij : i ≤ j) (hj : j < S.length), (S.getD i (0, 0, 0)).1 ≤ (S.getD j (0, 0, 0)).1 := by
    intro i j hij hj
    rcases Nat.lt_or_eq_of_le hij with h | h
    · rw [at_ i (by omega), at_ j hj]
      exact List.pairwise_iff_getElem.1 hs i j (by omega) hj h
    · subst h; exact Int.le_refl _
  intro k
  induction k with
  | zero =>
    intro _
    refine Or.inl ⟨rfl, trivial, fun q hq => (by cases hq), fun x hx => ⟨fun h => absurd h (memP_nil x), fun h => ?_⟩⟩
    exfalso
    have late : ∀ c ∈ S, x < c.1 := by
      intro c hc
      obtain ⟨i, hi, rfl⟩ := List.mem_iff_getElem.1 hc
      have h1 := hx (by omega)
      have h2 := ord 0 i (Nat.zero_le i) hi
      rw [at_ i hi] at h2
      omega
    have h' : is (A x) (B x) = true := h
    rw [dA, dB, cnt_late 0 x S late, cnt_late 1 x S late] at h'
    rw [show decide ((0 : Int) < 0) = false from rfl, h00] at h'
    cases h'
  | succ k ih =>
    intro hk
    have hk' : k < S.length := hk
    have I := ih (by omega)
    have ho := sw_open is S hl (k + 1) hk
    have hb1 : bump (swUpto is S k).1 (S.getD k (0, 0, 0)) = (totC 0 (S.take (k + 1)), totC 1 (S.take (k + 1))) := by
      rw [← ho]
      show _ = (swStep is S k (swUpto is S k)).1
      unfold swStep
      simp only []
      split <;> rfl
    show SwInv S _ (k + 1) (swStep is S k (swUpto is S k)).2.1 (swStep is S k (swUpto is S k)).2.2
    unfold swStep
    simp only []
    by_cases hc : k + 1 < S.length ∧ (S.getD (k + 1) (0, 0, 0)).1 = (S.getD k (0, 0, 0)).1
    · rw [if_pos hc]
      have hbef : ∀ x, Bef S (k + 1) x ↔ Bef S k x := by
        intro x
        unfold Bef
        rw [hc.2]
        exact ⟨fun h _ => h hc.1, fun h _ => h hk'⟩
      unfold SwInv at I ⊢
      simp only [hbef]
      exact I
    · rw [if_neg hc, hb1]
      generalize ht : (S.getD k (0, 0, 0)).1 = t at hc ⊢
      -- the next change, if any, comes later
      have later : ∀ x, Bef S k x → Bef S (k + 1) x := by
        intro x hx hk2
        have h1 := hx hk'
        have h2 := ord k (k + 1) (by omega) hk2
        omega
      have tbef : Bef S (k + 1) t := by
        intro hk2
        have h2 := ord k (k + 1) (by omega) hk2
        have : ¬ (S.getD (k + 1) (0, 0, 0)).1 = t := fun e => hc ⟨hk2, e⟩
        omega
      have kt : ∀ x, Bef S k x ↔ x < t := fun x => ⟨fun h => by have := h hk'; omega, fun h _ => by omega⟩
      have now : ∀ x, t ≤ x → Bef S (k + 1) x → is (A x) (B x) = is (decide (0 < totC 0 (S.take (k + 1)))) (decide (0 < totC 1 (S.take (k + 1)))) := by
        intro x h1 h2
        have e : ∀ j, cnt j x S = totC j (S.take (k + 1)) := by
          intro j
          have es : cnt j x S = cnt j x (S.take (k + 1) ++ S.drop (k + 1)) := by rw [List.take_append_drop]
          rw [es, cnt_append, cnt_late j x (S.drop (k + 1)), cnt_tot j x (S.take (k + 1)), Int.add_zero]
          · intro c hc2
            obtain ⟨i, hi, rfl⟩ := List.mem_iff_getElem.1 hc2
            rw [List.length_take] at hi
            rw [List.getElem_take]
            have h3 := ord i k (by omega) hk'
            rw [at_ i (by omega)] at h3
            omega
          · intro c hc2
            obtain ⟨i, hi, rfl⟩ := List.mem_iff_getElem.1 hc2
            rw [List.length_drop] at hi
            rw [List.getElem_drop]
            have h3 := ord (k + 1) (k + 1 + i) (by omega) (by omega)
            rw [at_ (k + 1 + i) (by omega)] at h3
            have h4 := h2 (by omega)
            omega
        rw [dA, dB, e, e]
      generalize hn : is (decide (0 < totC 0 (S.take (k + 1)))) (decide (0 < totC 1 (S.take (k + 1)))) = n at now ⊢
      generalize (swUpto is S k).2.1 = ins at I ⊢
      generalize (swUpto is S k).2.2 = O at I ⊢
      rcases I with ⟨i0, i1, i2, i3⟩ | ⟨i0, M, s, i1, i2, i3, i4, i5⟩
      · subst i0
        cases n with
        | true =>
          have eo : swOut O false true t = O ++ [(t, 0)] := if_pos ⟨rfl, rfl⟩
          rw [eo]
          refine Or.inr ⟨rfl, O, t, rfl, i1, fun q hq => (kt _).1 (i2 q hq), tbef, fun x hx => ?_⟩
          rcases Int.lt_or_le x t with h | h
          · rw [← i3 x ((kt x).2 h)]
            exact ⟨fun g => g.elim id fun g => by omega, Or.inl⟩
          · exact ⟨fun _ => now x h hx, fun _ => Or.inr h⟩
        | false =>
          have eo : swOut O false false t = O := by unfold swOut; rw [if_neg (by simp), if_neg (by simp)]
          rw [eo]
          refine Or.inl ⟨rfl, i1, fun q hq => later _ (i2 q hq), fun x hx => ?_⟩
          rcases Int.lt_or_le x t with h | h
          · exact i3 x ((kt x).2 h)
          · refine ⟨fun g => ?_, fun g => ?_⟩
            · have := mem_before (fun q hq => (kt _).1 (i2 q hq)) g; omega
            · have := now x h hx
              exact absurd (this.symm.trans g) (by decide)
      · subst i0
        subst i1
        have hst : s < t := (kt s).1 i4
        cases n with
        | true =>
          have eo : swOut (M ++ [(s, 0)]) true true t = M ++ [(s, 0)] := by unfold swOut; rw [if_neg (by simp), if_neg (by simp)]
          rw [eo]
          refine Or.inr ⟨rfl, M, s, rfl, i2, i3, later s i4, fun x hx => ?_⟩
          rcases Int.lt_or_le x t with h | h
          · exact i5 x ((kt x).2 h)
          · exact ⟨fun _ => now x h hx, fun _ => Or.inr (by omega)⟩
        | false =>
          have eo : swOut (M ++ [(s, 0)]) true false t = M ++ [(s, t)] := by
            unfold swOut
            rw [if_neg (by simp), if_pos ⟨rfl, rfl⟩, List.getLast?_concat, List.dropLast_concat]
            rfl
          rw [eo]
          refine Or.inl ⟨rfl, (can_snoc M (s, t)).2 ⟨i2, hst, i3⟩, fun q hq => ?_, fun x hx => ?_⟩
          · rcases List.mem_append.1 hq with hq | hq
            · have := i3 q hq
              exact later _ ((kt _).2 (by omega))
            · rw [List.mem_singleton.1 hq]; exact tbef
          · rw [memP_snoc]
            show MemP M x ∨ (s ≤ x ∧ x < t) ↔ _
            rcases Int.lt_or_le x t with h | h
            · rw [← i5 x ((kt x).2 h)]
              exact or_congr Iff.rfl (and_iff_left h)
            · refine ⟨fun g => ?_, fun g => ?_⟩
              · rcases g with g | g
                · have := mem_before i3 g; omega
                · omega
              · have := now x h hx
                exact absurd (this.symm.trans g) (by decide)

theorem inL_far (ps : List (Int × Int)) (x : Int) (h : 12622780800 ≤ x) : inL ps x = false := by
  rw [Bool.eq_false_iff]
  intro g
  obtain ⟨p, -, hv, -, h2⟩ := (inL_iff ps x).1 g
  have := (validB_iff _ _).1 hv
  omega

/-- Whatever order of equal instants the sort takes, the sweep answers canonically, with the instants of the condition. -/
theorem swept_law (is : Bool → Bool → Bool) (S : List (Int × Int × Int)) (a b : List (Int × Int)) (h00 : is false false = false) (hp : S.Perm (chg 0 a ++ chg 1 b)) (hs : S.Pairwise (fun c d => c.1 ≤ d.1)) :
    (swUpto is S S.length).2.1 = false ∧ Can (swUpto is S S.length).2.2 ∧ ∀ x, MemP (swUpto is S S.length).2.2 x ↔ is (inL a x) (inL b x) = true := by
  have hchg : ∀ j ps, ∀ c ∈ chg j ps, c.2.1 = j := by
    intro j ps c hc
    obtain ⟨p, -, h⟩ := List.mem_flatMap.1 hc
    split at h
    · rcases List.mem_cons.1 h with rfl | h
      · rfl
      · rw [List.mem_singleton.1 h]
    · cases h
  have hl : ∀ c ∈ S, c.2.1 = 0 ∨ c.2.1 = 1 := by
    intro c hc
    rcases List.mem_append.1 (hp.mem_iff.1 hc) with h | h
    · exact Or.inl (hchg _ _ c h)
    · exact Or.inr (hchg _ _ c h)
  have hA : ∀ x, 0 < cnt 0 x S ↔ inL a x = true := by
    intro x
    rw [cnt_perm 0 x hp, cnt_append, cnt_other 0 1 x (by decide), Int.add_zero]
    exact (cnt_own 0 x a).2
  have hB : ∀ x, 0 < cnt 1 x S ↔ inL b x = true := by
    intro x
    rw [cnt_perm 1 x hp, cnt_append, cnt_other 1 0 x (by decide), Int.zero_add]
    exact (cnt_own 1 x b).2
  have I := sw_law is S (inL a) (inL b) h00 hl hs hA hB S.length (Nat.le_refl _)
  have all : ∀ x, Bef S S.length x := fun x h => absurd h (Nat.lt_irrefl _)
  rcases I with ⟨i0, i1, -, i3⟩ | ⟨i0, M, s, i1, i2, i3, -, i5⟩
  · exact ⟨i0, i1, fun x => i3 x (all x)⟩
  · exfalso
    have h1 := (i5 (max s 12622780800) (all _)).1 (Or.inr (Int.le_max_left _ _))
    have h2 : is (inL a (max s 12622780800)) (inL b (max s 12622780800)) = true := h1
    rw [inL_far a _ (Int.le_max_right _ _), inL_far b _ (Int.le_max_right _ _), h00] at h2
    cases h2

/-- So the program's set is the reference's. -/
theorem swept_choose (is : Bool → Bool → Bool) (S : List (Int × Int × Int)) (a b : List (Int × Int)) (ig inb : Bool) (h00 : is false false = false) (hp : S.Perm (chg 0 a ++ chg 1 b)) (hs : S.Pairwise (fun c d => c.1 ≤ d.1))
    (hi : ∀ x y, is x y = (x && (ig || (y == inb)))) : (swUpto is S S.length).2.2 = chooseL a b ig inb := by
  obtain ⟨-, h1, h2⟩ := swept_law is S a b h00 hp hs
  obtain ⟨c1, c2⟩ := choose_law a b ig inb
  refine can_unique _ _ h1 c1 fun x => ?_
  rw [h2, c2, hi]
  exact Iff.rfl
end Go.Proofs.YtngippiilgdnoaaGreat

namespace Go.Proofs.YtngippiilgdnoaaGreat
open Go.RowKit

/-- A change's three cells. -/
def chCells (c : Int × Int × Int) : List Value := [.int .i64 c.1, .int .i64 c.2.1, .int .i64 c.2.2]
theorem Tryz.chInfo : (Tryz.prog.info? 216).map (fun i => (i.zero, i.size, i.bytes)) = some (some (.agg #[.int .i64 0, .int .i64 0, .int .i64 0]), 3, 24) := by kernel_rfl

/-- A change in a row of three cells. -/
def ChR (w : World) (b o : Nat) (c : Int × Int × Int) : Prop := w.cell? ⟨b, o, none⟩ = some (.int .i64 c.1) ∧ w.cell? ⟨b, o + 1, none⟩ = some (.int .i64 c.2.1) ∧ w.cell? ⟨b, o + 2, none⟩ = some (.int .i64 c.2.2)
theorem ChR.stays : Stays ChR := fun _ _ b _ _ hb hB ⟨h0, h1, h2⟩ =>
  ⟨(hb.cell (p := ⟨b, _, none⟩) hB).trans h0, (hb.cell (p := ⟨b, _, none⟩) hB).trans h1, (hb.cell (p := ⟨b, _, none⟩) hB).trans h2⟩
def ChsAt (w : World) (v : Value) (l : List (Int × Int × Int)) : Prop := SliceAt 3 ChR w v l
theorem ChsAt.below {w w' : World} {v : Value} {l : List (Int × Int × Int)} (h : ChsAt w v l) (hb : Below w.heap.size w w') : ChsAt w' v l := SliceAt.below ChR.stays h hb

/-- A row sorted: its changes in another order, ascending. -/
def SortedTo (B : Nat) (N : List (Int × Int × Int)) (v : Value) (w : World) (e : Ending) (w' : World) : Prop :=
  e = .returned (.tuple #[]) ∧ Below B w w' ∧ ∃ S : List (Int × Int × Int), S.Perm N ∧ S.Pairwise (fun c e => c.1 ≤ e.1) ∧ S.length = N.length ∧ ChsAt w' v S
/-- An owned row stays where its block stays. -/
theorem ownsRow_keep {w w' : World} {base : Nat} {e : TypeId} {sz n : Nat} {v : Value} {xs : List Value} (h : w.ownsRow base e sz v n xs) (hb : ∀ g, v.ownBlock = some g → w'.heap[g]? = w.heap[g]?) : w'.ownsRow base e sz v n xs := by
  obtain ⟨h1, h2⟩ := h
  refine ⟨h1, ?_⟩
  rcases h2 with h2 | ⟨g, cap, cur, hv, hg, hh, r⟩
  · exact Or.inl h2
  · exact Or.inr ⟨g, cap, cur, hv, hg, (hb g (by rw [hv]; rfl)).trans hh, r⟩

theorem chg_snoc (j : Int) (l : List (Int × Int)) (k : Nat) (h : k < l.length) : chg j (l.take (k + 1)) = chg j (l.take k) ++ (if validB l[k].1 l[k].2 = true then [(l[k].1, j, 1), (l[k].2, j, -1)] else []) := by
  unfold chg
  rw [List.take_succ_eq_append_getElem h, List.flatMap_append]
  congr 1
  simp
theorem chg_len (j : Int) (l : List (Int × Int)) : (chg j l).length ≤ 2 * l.length := by
  induction l with
  | nil => exact Nat.le_refl _
  | cons p r ih =>
    rw [chg_cons, List.length_append, List.length_cons]
    split
    · simp; omega
    · simp; omega

/-- The variable in block c holds a row of the changes N. -/
def VarAt (w0 : World) (N : List (Int × Int × Int)) (w : World) : Prop :=
  Below w0.heap.size w0 w ∧ w0.heap.size < w.heap.size ∧ ∃ v, w.cell? ⟨w0.heap.size, 0, none⟩ = some v ∧ w.frozen? ⟨w0.heap.size, 0, none⟩ = false ∧ w.ownsRow (w0.heap.size + 1) 216 3 v N.length (N.flatMap chCells)
theorem VarAt.below {w0 w w' : World} {N : List (Int × Int × Int)} (h : VarAt w0 N w) (hb : Below w.heap.size w w') : VarAt w0 N w' := by
  obtain ⟨h1, h2, v, h3, h4, h5⟩ := h
  exact ⟨h1.trans (hb.mono h1.size), Nat.lt_of_lt_of_le h2 hb.size, v, (hb.cell (p := ⟨w0.heap.size, 0, none⟩) h2).trans h3, (hb.frozen (p := ⟨w0.heap.size, 0, none⟩) h2).trans h4, ownsRow_below h5 hb⟩
def VarTo (w0 : World) (N : List (Int × Int × Int)) (e : Ending) (w' : World) : Prop := e = .returned (.tuple #[]) ∧ VarAt w0 N w'

set_option maxRecDepth 100000 in
set_option maxHeartbeats 6400000 in
theorem gather_calls (w0 w : World) (vl : Value) (l : List (Int × Int)) (j : Int) (L : List (Int × Int × Int)) (hl : PersAt w0 vl l) (hn : L.length + 2 * l.length ≤ 8000) (hV : VarAt w0 L w) :
    Calls Tryz.prog 160 #[vl, .int .i64 j, .pointer (some ⟨w0.heap.size, 0, none⟩)] w (VarTo w0 (L ++ chg j l)) := by
  have hlh := hl
  obtain ⟨av, cap, rfl, hlc, hm, -⟩ := hl
  have hm := hm.1
  unfold maxLen at hm
  go_enter Tryz.func160, Tryz.ntmps160
  go_wp2_with fail
  go_loopw [9] (fun i wr => ∃ k : Nat, k ≤ l.length ∧ i = .int .i64 k ∧ VarAt w0 (L ++ chg j (l.take k)) wr) (fun i _ => l.length - (intOf i).toNat)
  case atStart => exact ⟨0, Nat.zero_le _, rfl, by rw [List.take_zero, show chg j [] = [] from rfl, List.append_nil]; exact hV⟩
  case round =>
    obtain ⟨k, hk, rfl, hv⟩ := hrel
    by_cases hlt : k < l.length
    · obtain ⟨hb, hcw, v, hcell, hfr, hown⟩ := hv
      obtain ⟨av2, cap2, e2, -, -, hx⟩ := hlh.below hb
      cases e2
      obtain ⟨b, o, rfl, hB, hx⟩ := hx (by rintro rfl; cases hlt)
      obtain ⟨c0, c1⟩ := hx k hlt
      have hk0 : (0 : Int) ≤ (k : Int) := Int.natCast_nonneg _
      have hk1 : (k : Int) < (l.length : Int) := by omega
      have hsn := chg_snoc j l k hlt
      have hcl := chg_len j (l.take k)
      rw [List.length_take, Nat.min_eq_left hk] at hcl
      have hlen : (L ++ chg j (l.take k)).length ≤ 8000 := by rw [List.length_append]; omega
      clear hx hcl
      generalize l[k] = p at *
      obtain ⟨x1, x2⟩ := p
      dsimp only at *
      obtain ⟨N, hN⟩ : ∃ N, N = L ++ chg j (l.take k) := ⟨_, rfl⟩
      rw [← hN] at hown hlen
      obtain ⟨W, hW⟩ : ∃ W, W = wr.alloc (Obj.cells #[Value.int .i64 x1, Value.int .i64 x2] 25) := ⟨_, rfl⟩
      have hbW : Below wr.heap.size wr W := by rw [hW]; exact (Below.refl _ _).alloc (Nat.le_refl _) _
      have hzW : wr.heap.size < W.heap.size := by rw [hW]; simp
      have rW : W.heap[wr.heap.size]? = some (Obj.cells #[Value.int .i64 x1, Value.int .i64 x2] 25) := by rw [hW]; exact heap_alloc_new _ _
      have HVW := Lib.hid (show VarAt w0 N W from VarAt.below ⟨hb, hcw, v, hcell, hfr, hown⟩ hbW)
      have hbz := hb.size
      clear hcell hfr hown v
      have HW := Lib.hid hW
      have RW := Lib.hid rW
      have HN := Lib.hid hN
      have Hv := Lib.hid (valid_calls x1 x2 W)
      have HSN := Lib.hid hsn
      clear hW rW hN hsn
      cases hct : validB x1 x2 with
      | false =>
        have HE := Lib.hid (show L ++ chg j (l.take (k + 1)) = N by rw [HN.out, HSN.out, if_neg (by rw [hct]; decide), List.append_nil])
        rw [hct] at Hv
        clear hct
        go_wp2_with fail
        rw [← HW.out]
        refine Hv.out.mono ?_
        rintro e w3 ⟨rfl, hb3⟩
        have HV3 := Lib.hid (HVW.out.below hb3)
        go_wp2
        exact ⟨⟨k + 1, by omega, by go_num, by rw [HE.out]; exact HV3.out⟩, by simp [intOf]; omega⟩
      | true =>
        have HE := Lib.hid (show L ++ chg j (l.take (k + 1)) = N ++ [(x1, j, 1), (x2, j, -1)] by rw [HN.out, HSN.out, if_pos hct, List.append_assoc])
        rw [hct] at Hv
        clear hct
        go_wp2_with fail
        rw [← HW.out]
        refine Hv.out.mono ?_
        rintro e w3 ⟨rfl, hb3⟩
        obtain ⟨hb4, hcw4, v, hcell, hfr, hown⟩ := HVW.out.below hb3
        have q := (hb3.block _ hzW).trans RW.out
        have q0 : w3.cell? ⟨wr.heap.size, 0, none⟩ = some (.int .i64 x1) := cell_of_row w3 _ 0 _ _ _ q
        have q1 : w3.cell? ⟨wr.heap.size, 1, none⟩ = some (.int .i64 x2) := cell_of_row w3 _ 1 _ _ _ q
        obtain ⟨ao, co, rfl, hco, -⟩ := own_shape hown
        obtain ⟨i0, hi, hz0, hz1, hz2⟩ := info_parts Tryz.chInfo
        have Hi := Lib.hid (And.intro hi (And.intro hz0 (And.intro hz1 hz2)))
        have Hown := Lib.hid hown
        have Hfr := Lib.hid hfr
        have Hcell := Lib.hid hcell
        have HB4 := Lib.hid hb4
        have hz4 := hb4.size
        clear hi hz0 hz1 hz2 q hb3 hown
        have hcw5 : ¬ w0.heap.size = w3.heap.size := by omega
        have hcw6 : w0.heap.size < w3.heap.size + 1 := by omega
        go_wp2_with (at_builtin; refine wpList_append_own _ rfl _ _ 214 rfl (w0.heap.size + 1) 216 i0 _ 3 24 Tryz.underlying214 Hi.out.1 Hi.out.2.1 Hi.out.2.2.1 Hi.out.2.2.2 rfl (by decide) _ _ _ rfl (Hown.out.alloc _) ⟨w3.heap.size, 0, none⟩ 2 2 [.int .i64 x1, .int .i64 j, .int .i64 1, .int .i64 x2, .int .i64 j, .int .i64 (-1)] rfl rfl (World.news_of_block (cs := #[.int .i64 x1, .int .i64 j, .int .i64 1, .int .i64 x2, .int .i64 j, .int .i64 (-1)]) (t := 216) (fr := (0, 0)) (heap_alloc_new _ _)) ?aq2 ?aq3 ?aq4 ?aq5 ?_)
        case aq2 => simp [Value.oneCell']
        case aq3 => unfold maxLen; (try simp only [List.length_append, List.length_cons, List.length_nil]); omega
        case aq4 => (try simp only [List.length_append, List.length_cons, List.length_nil]); omega
        case aq5 => (try simp); omega
        intro v_w2 w2 hown_w2 hgrow _
        have hb2 : Below (w0.heap.size + 1) w3 w2 := ((Below.refl (w0.heap.size + 1) w3).alloc (by omega) _).grown hgrow (by simp; omega) (fun g hg => (ownsRow_block Hown.out g hg).1)
        have hcell2 : w2.cell? ⟨w0.heap.size, 0, none⟩ = some (.slice ao N.length co) := (hb2.cell (p := ⟨w0.heap.size, 0, none⟩) (by simp)).trans Hcell.out
        have hfr2 : w2.frozen? ⟨w0.heap.size, 0, none⟩ = false := (hb2.frozen (p := ⟨w0.heap.size, 0, none⟩) (by simp)).trans Hfr.out
        have hz2 := hb2.size
        have hb5 : Below w0.heap.size w0 w2 := HB4.out.trans (hb2.mono (by omega))
        have Hown2 := Lib.hid hown_w2
        clear hown_w2 hgrow
        obtain ⟨ao2, co2, rfl, -, -⟩ := own_shape Hown2.out
        go_wp2
        refine ⟨⟨k + 1, by omega, by go_num, ?_⟩, by simp [intOf]; omega⟩
        rw [HE.out]
        refine ⟨hb5.setCell (Nat.le_refl _) _, by simp; omega, _, World.cell?_setCell_same _ _ _ hcell2, by simpa using hfr2, ?_⟩
        refine ownsRow_keep (w := w2) ?_ (fun g hg => Below.heap_setCell _ _ _ _ (by have := (ownsRow_block Hown2.out g hg).1; simp; omega))
        rw [List.flatMap_append, List.length_append]
        exact Hown2.out
    · go_wp2
      go_end0
      rw [List.take_of_length_le (by omega)] at hv
      exact ⟨rfl, hv⟩
end Go.Proofs.YtngippiilgdnoaaGreat

namespace Go.Proofs.YtngippiilgdnoaaGreat
open Go.RowKit

theorem choose_same {a b c d : List (Int × Int)} {ig inb ig' inb' : Bool} (h : ∀ x, selB a b ig inb x = selB c d ig' inb' x) : chooseL a b ig inb = chooseL c d ig' inb' := by
  obtain ⟨h1, h2⟩ := choose_law a b ig inb
  obtain ⟨h3, h4⟩ := choose_law c d ig' inb'
  exact can_unique _ _ h1 h3 fun x => by rw [h2, h4, h x]

/-- How many of the first n numbers. -/
def cntB (p : Int → Bool) : Nat → Int
  | 0 => 0
  | n + 1 => cntB p n + if p n = true then 1 else 0
theorem cntB_or (p q r : Int → Bool) (h : ∀ x, r x = (p x || q x)) (hd : ∀ x, ¬ (p x = true ∧ q x = true)) (n : Nat) : cntB r n = cntB p n + cntB q n := by
  induction n with
  | zero => rfl
  | succ n ih =>
    show cntB r n + _ = (cntB p n + _) + (cntB q n + _)
    rw [ih, h]
    have := hd n
    cases hp : p n <;> cases hq : q n <;> simp_all <;> omega
theorem cntB_none (p : Int → Bool) (h : ∀ x, p x = false) (n : Nat) : cntB p n = 0 := by
  induction n with
  | zero => rfl
  | succ n ih => show cntB p n + _ = 0; rw [ih, h]; rfl
theorem cntB_one (f t : Int) (h0 : 0 ≤ f) (hft : f ≤ t) (n : Nat) : cntB (fun x => decide (f ≤ x) && decide (x < t)) n = min t n - min f n := by
  induction n with
  | zero => show (0 : Int) = min t ((0 : Nat) : Int) - min f ((0 : Nat) : Int); omega
  | succ n ih =>
    show cntB _ n + (if (decide (f ≤ (n : Int)) && decide ((n : Int) < t)) = true then 1 else 0) = _
    rw [ih]
    have e : ((decide (f ≤ (n : Int)) && decide ((n : Int) < t)) = true) ↔ (f ≤ (n : Int) ∧ (n : Int) < t) := by simp
    split <;> rename_i hc <;> rw [e] at hc <;> omega
end Go.Proofs.YtngippiilgdnoaaGreat

namespace Go.Proofs.YtngippiilgdnoaaGreat
open Go.RowKit

/-- The runs of days that a list touches, and the first day that was not counted yet. -/
def rStep (s : Int × List (Int × Int)) (p : Int × Int) : Int × List (Int × Int) :=
  ((p.2 - 1) / 86400 + 1, if max (p.1 / 86400) s.1 < (p.2 - 1) / 86400 + 1 then s.2 ++ [(max (p.1 / 86400) s.1, (p.2 - 1) / 86400 + 1)] else s.2)
def runsF (C : List (Int × Int)) : Int × List (Int × Int) := C.foldl rStep (0, [])
theorem runs_take (C : List (Int × Int)) (k : Nat) (h : k < C.length) : runsF (C.take (k + 1)) = rStep (runsF (C.take k)) C[k] := by
  unfold runsF; rw [List.take_succ_eq_append_getElem h, List.foldl_append]; rfl
/-- The reference's count. -/
def dStep (s : Int × Int) (p : Int × Int) : Int × Int :=
  if max (p.1 / 86400) s.2 ≤ (p.2 - 1) / 86400 then (s.1 + ((p.2 - 1) / 86400 - max (p.1 / 86400) s.2 + 1), (p.2 - 1) / 86400 + 1) else s
def daysF (C : List (Int × Int)) : Int × Int := C.foldl dStep (0, 0)
theorem days_take (C : List (Int × Int)) (k : Nat) (h : k < C.length) : daysF (C.take (k + 1)) = dStep (daysF (C.take k)) C[k] := by
  unfold daysF; rw [List.take_succ_eq_append_getElem h, List.foldl_append]; rfl

def InT (C : List (Int × Int)) : Prop := ∀ q ∈ C, 0 ≤ q.1 ∧ q.1 < q.2 ∧ q.2 ≤ 12622780800
theorem day_bd {f t : Int} (h : 0 ≤ f ∧ f < t ∧ t ≤ 12622780800) : 0 ≤ f / 86400 ∧ f / 86400 ≤ (t - 1) / 86400 ∧ (t - 1) / 86400 + 1 ≤ 146097 := by omega
theorem daysF_bd : ∀ (C : List (Int × Int)), InT C → 0 ≤ (daysF C).1 ∧ (daysF C).1 ≤ (daysF C).2 ∧ (daysF C).2 ≤ 146097 := by
  intro C h
  have key : ∀ k, k ≤ C.length → 0 ≤ (daysF (C.take k)).1 ∧ (daysF (C.take k)).1 ≤ (daysF (C.take k)).2 ∧ (daysF (C.take k)).2 ≤ 146097 := by
    intro k
    induction k with
    | zero => intro _; exact ⟨Int.le_refl _, Int.le_refl _, show (0 : Int) ≤ 146097 by decide⟩
    | succ k ih =>
      intro hk
      have h1 := ih (by omega)
      have h2 := day_bd (h C[k] (List.getElem_mem _))
      rw [days_take C k hk]
      unfold dStep
      split
      · dsimp only; omega
      · exact h1
  have := key C.length (Nat.le_refl _)
  rwa [List.take_length] at this
theorem runsF_bd : ∀ (C : List (Int × Int)), InT C → 0 ≤ (runsF C).1 ∧ (runsF C).1 ≤ 146097 ∧ (runsF C).2.length ≤ C.length ∧ ∀ q ∈ (runsF C).2, 0 ≤ q.1 ∧ q.1 < q.2 ∧ q.2 ≤ 146097 := by
  intro C h
  have key : ∀ k, k ≤ C.length → 0 ≤ (runsF (C.take k)).1 ∧ (runsF (C.take k)).1 ≤ 146097 ∧ (runsF (C.take k)).2.length ≤ k ∧ ∀ q ∈ (runsF (C.take k)).2, 0 ≤ q.1 ∧ q.1 < q.2 ∧ q.2 ≤ 146097 := by
    intro k
    induction k with
    | zero => intro _; exact ⟨Int.le_refl _, show (0 : Int) ≤ 146097 by decide, Nat.le_refl _, fun q hq => by cases hq⟩
    | succ k ih =>
      intro hk
      obtain ⟨h1, h2, h3, h4⟩ := ih (by omega)
      have h5 := day_bd (h C[k] (List.getElem_mem _))
      rw [runs_take C k hk]
      unfold rStep
      refine ⟨by dsimp only; omega, by dsimp only; omega, ?_, ?_⟩
      · dsimp only; split
        · simp; omega
        · omega
      · dsimp only; split
        · intro q hq
          rcases List.mem_append.1 hq with hq | hq
          · exact h4 q hq
          · obtain rfl := List.mem_singleton.1 hq; dsimp only; omega
        · exact h4
  have := key C.length (Nat.le_refl _)
  rwa [List.take_length] at this

/-- The sum of the runs. -/
def sumR : List (Int × Int) → Int
  | [] => 0
  | q :: r => (q.2 - q.1) + sumR r
theorem sumR_snoc (l : List (Int × Int)) (q : Int × Int) : sumR (l ++ [q]) = sumR l + (q.2 - q.1) := by
  induction l with
  | nil => show q.2 - q.1 + 0 = 0 + (q.2 - q.1); omega
  | cons p r ih => show p.2 - p.1 + sumR (r ++ [q]) = p.2 - p.1 + sumR r + (q.2 - q.1); rw [ih]; omega
theorem can_step : ∀ (C : List (Int × Int)), Can C → ∀ (i : Nat) (h : i + 1 < C.length), (C[i]'(by omega)).2 < (C[i + 1]).1 := by
  intro C
  induction C with
  | nil => intro _ i h; cases h
  | cons p r ih =>
    intro hC i h
    match i, h with
    | 0, h => exact hC.2.1 _ (List.getElem_mem _)
    | i + 1, h => exact ih hC.2.2 i (by simpa using h)

/-- Is a day touched? -/
def dayIn (C : List (Int × Int)) (x : Int) : Bool := C.any fun p => decide (p.1 / 86400 ≤ x) && decide (x ≤ (p.2 - 1) / 86400)
theorem dayIn_snoc (l : List (Int × Int)) (p : Int × Int) (x : Int) : dayIn (l ++ [p]) x = (dayIn l x || (decide (p.1 / 86400 ≤ x) && decide (x ≤ (p.2 - 1) / 86400))) := by
  unfold dayIn; simp
/-- Both counts are the number of days touched. -/
theorem days_count (C : List (Int × Int)) (hC : Can C) (hI : InT C) (N : Nat) (hN : (N : Int) = 146097) :
    sumR (runsF C).2 = cntB (dayIn C) N ∧ (daysF C).1 = cntB (dayIn C) N := by
  have key : ∀ k, k ≤ C.length → sumR (runsF (C.take k)).2 = cntB (dayIn (C.take k)) N ∧ (daysF (C.take k)).1 = cntB (dayIn (C.take k)) N ∧ (runsF (C.take k)).1 = (daysF (C.take k)).2 ∧
      (∀ x, dayIn (C.take k) x = true → x < (daysF (C.take k)).2) ∧ (0 < k → (daysF (C.take k)).2 = ((C.getD (k - 1) (0, 0)).2 - 1) / 86400 + 1 ∧ dayIn (C.take k) (((C.getD (k - 1) (0, 0)).2 - 1) / 86400) = true) ∧ (k = 0 → (daysF (C.take k)).2 = 0) := by
    intro k
    induction k with
    | zero =>
      intro _
      rw [List.take_zero]
      exact ⟨(cntB_none (dayIn []) (fun _ => rfl) N).symm, (cntB_none (dayIn []) (fun _ => rfl) N).symm, rfl, fun x h => (by have h2 : false = true := h; cases h2), fun h => absurd h (by omega), fun _ => rfl⟩
    | succ k ih =>
      intro hk
      obtain ⟨h1, h2, h3, h4, h5, h5'⟩ := ih (by omega)
      have hq := hI C[k] (List.getElem_mem _)
      have h6 := day_bd hq
      have hbd := daysF_bd (C.take k) (fun q hq => hI q (List.mem_of_mem_take hq))
      have hprev : (daysF (C.take k)).2 ≤ (C[k].1 / 86400) + 1 := by
        by_cases k0 : k = 0
        · have := h5' k0; omega
        · have e := (h5 (by omega)).1
          have hs := can_step C hC (k - 1) (by omega)
          have e2 : C.getD (k - 1) (0, 0) = C[k - 1] := by simp [List.getD, show k - 1 < C.length by omega]
          rw [e2] at e
          have e3 : C[k - 1 + 1]'(by omega) = C[k] := by congr 1; omega
          rw [e3] at hs
          omega
      have e4 : C.getD (k + 1 - 1) (0, 0) = C[k] := by simp [List.getD, show k < C.length by omega]
      rw [runs_take C k hk, days_take C k hk, List.take_succ_eq_append_getElem hk, e4]
      generalize hp : C[k] = p at *
      generalize daysF (C.take k) = D at *
      generalize runsF (C.take k) = R at *
      obtain ⟨n, nx⟩ := D
      obtain ⟨nx2, L⟩ := R
      dsimp only at h1 h2 h3 h4 hbd hprev
      subst h3
      have dnew : ∀ x, dayIn (C.take k ++ [p]) x = (dayIn (C.take k) x || (decide (p.1 / 86400 ≤ x) && decide (x ≤ (p.2 - 1) / 86400))) := fun x => dayIn_snoc _ _ _
      have split2 : ∀ x, dayIn (C.take k ++ [p]) x = (dayIn (C.take k) x || (decide (max (p.1 / 86400) nx2 ≤ x) && decide (x < (p.2 - 1) / 86400 + 1))) := by
        intro x
        rw [dnew]
        by_cases hd : dayIn (C.take k) x = true
        · rw [hd]; rfl
        · rw [show dayIn (C.take k) x = false by simpa using hd, Bool.false_or, Bool.false_or]
          rw [Bool.eq_iff_iff, Bool.and_eq_true, Bool.and_eq_true]
          simp only [decide_eq_true_eq]
          constructor
          · rintro ⟨a1, a2⟩
            refine ⟨?_, by omega⟩
            by_cases hx : x < nx2
            · exfalso
              have k0 : 0 < k := by
                rcases Nat.eq_zero_or_pos k with e | e
                · have := h5' e; dsimp only at this; omega
                · exact e
              obtain ⟨b1, b2⟩ := h5 k0
              dsimp only at b1
              have : x = ((C.getD (k - 1) (0, 0)).2 - 1) / 86400 := by omega
              rw [this] at hd
              exact hd b2
            · omega
          · rintro ⟨a1, a2⟩
            omega
      have hcnt : cntB (dayIn (C.take k ++ [p])) N = cntB (dayIn (C.take k)) N + (min ((p.2 - 1) / 86400 + 1) N - min (max (p.1 / 86400) nx2) N) ∨ (p.2 - 1) / 86400 + 1 < max (p.1 / 86400) nx2 := by
        by_cases hle : max (p.1 / 86400) nx2 ≤ (p.2 - 1) / 86400 + 1
        · left
          rw [cntB_or (dayIn (C.take k)) (fun x => decide (max (p.1 / 86400) nx2 ≤ x) && decide (x < (p.2 - 1) / 86400 + 1)) _ split2 (fun x ⟨a1, a2⟩ => by
            have := h4 x a1
            simp at a2
            omega) N, cntB_one _ _ (by omega) hle N]
        · right; omega
      have hN2 : (p.2 - 1) / 86400 + 1 ≤ (N : Int) := by omega
      have hmx : max (p.1 / 86400) nx2 ≤ (p.2 - 1) / 86400 + 1 := by omega
      have hcnt2 : cntB (dayIn (C.take k ++ [p])) N = cntB (dayIn (C.take k)) N + ((p.2 - 1) / 86400 + 1 - max (p.1 / 86400) nx2) := by
        rcases hcnt with h | h
        · rw [h]; omega
        · omega
      have hin2 : dayIn (C.take k ++ [p]) ((p.2 - 1) / 86400) = true := by
        rw [dnew, Bool.or_eq_true, Bool.and_eq_true]
        exact Or.inr ⟨decide_eq_true (by omega), decide_eq_true (Int.le_refl _)⟩
      unfold rStep dStep
      dsimp only
      by_cases hlt : max (p.1 / 86400) nx2 < (p.2 - 1) / 86400 + 1
      · rw [if_pos hlt, if_pos (by omega)]
        refine ⟨by rw [sumR_snoc, h1, hcnt2], by rw [hcnt2]; dsimp only; omega, rfl, ?_, fun _ => ⟨rfl, hin2⟩, fun h => absurd h (by omega)⟩
        intro x hx
        rw [split2, Bool.or_eq_true] at hx
        rcases hx with hx | hx
        · have := h4 x hx; dsimp only; omega
        · simp at hx; dsimp only; omega
      · rw [if_neg hlt, if_neg (by omega)]
        refine ⟨by rw [h1, hcnt2]; omega, by rw [hcnt2]; dsimp only; omega, by dsimp only; omega, ?_, fun _ => ⟨by dsimp only; omega, hin2⟩, fun h => absurd h (by omega)⟩
        intro x hx
        rw [split2, Bool.or_eq_true] at hx
        rcases hx with hx | hx
        · have := h4 x hx; dsimp only; omega
        · simp at hx; dsimp only; omega
  have h := key C.length (Nat.le_refl _)
  rw [List.take_length] at h
  exact ⟨h.1, h.2.1⟩
end Go.Proofs.YtngippiilgdnoaaGreat

namespace Go.Proofs.YtngippiilgdnoaaGreat
open Go.RowKit

set_option maxRecDepth 100000 in
set_option maxHeartbeats 3200000 in
theorem rdays_calls (v : Value) (C : List (Int × Int)) (w : World) (hp : PersAt w v C) (hlen : C.length ≤ 10000) (hI : InT C) :
    Calls Tryz.prog 79 #[v] w fun e w' => e = .returned (.int .i64 (daysF C).1) ∧ Below w.heap.size w w' := by
  have hp' := hp
  obtain ⟨av, cap, rfl, -⟩ := hp
  go_enter Tryz.func79, Tryz.ntmps79
  go_wp2_with fail
  go_loopw [3, 4, 5] (fun n nx i wr => ∃ k : Nat, k ≤ C.length ∧ i = .int .i64 k ∧ n = .int .i64 (daysF (C.take k)).1 ∧ nx = .int .i64 (daysF (C.take k)).2 ∧ Below w.heap.size w wr) (fun _ _ i _ => C.length - (intOf i).toNat)
  case atStart => exact ⟨0, Nat.zero_le _, rfl, rfl, rfl, Below.refl _ _⟩
  case round =>
    obtain ⟨k, hk, rfl, rfl, rfl, hb⟩ := hrel
    by_cases hlt : k < C.length
    · obtain ⟨av2, cap2, e2, -, -, hx⟩ := hp'.below hb
      cases e2
      obtain ⟨b, o, rfl, hB, hx⟩ := hx (by rintro rfl; cases hlt)
      obtain ⟨c0, c1⟩ := hx k hlt
      have hk0 : (0 : Int) ≤ (k : Int) := Int.natCast_nonneg _
      have hk1 : (k : Int) < (C.length : Int) := by omega
      have hq := hI C[k] (List.getElem_mem hlt)
      have HR := Lib.hid (days_take C k hlt)
      have hbd := daysF_bd (C.take k) (fun q hq => hI q (List.mem_of_mem_take hq))
      clear hx
      generalize C[k] = p at *
      obtain ⟨f, t⟩ := p
      dsimp only at *
      generalize daysF (C.take k) = D at *
      obtain ⟨n, nx⟩ := D
      dsimp only at *
      obtain ⟨hr0, hr1, hr2⟩ := hbd
      have hd := day_bd hq
      obtain ⟨hq0, hq1, hq2⟩ := hq
      obtain ⟨hd0, hd1, hd2⟩ := hd
      have ht1 : 0 ≤ t - 1 := by omega
      have w1 : IntKind.i64.wrap (t - 1) = t - 1 := IntWalk.i64_in _ (by omega)
      go_upto_region 5 with (fail)
      go_big_quiet (fail)
      obtain ⟨V, hV⟩ : ∃ V, V = wr.drewN nq := ⟨_, rfl⟩
      have hbV := below_drewN2 hb nq
      rw [← hV] at hbV ⊢
      clear hV c0 c1 w1
      have HR := Lib.hid (show daysF (C.take (k + 1)) = dStep (n, nx) (f, t) from HR.out)
      obtain ⟨la, hla⟩ : ∃ la, la = (t - 1) / 86400 := ⟨_, rfl⟩
      obtain ⟨fi, hfi⟩ : ∃ fi, fi = f / 86400 := ⟨_, rfl⟩
      rw [← hla, ← hfi]
      rw [← hfi] at hd0
      rw [← hla, ← hfi] at hd1
      rw [← hla] at hd2
      have HR2 := Lib.hid (show daysF (C.take (k + 1)) = if max fi nx ≤ la then (n + (la - max fi nx + 1), la + 1) else (n, nx) by rw [HR.out, hla, hfi]; rfl)
      clear hla hfi
      obtain ⟨fr, hfr⟩ : ∃ fr, fr = max fi nx := ⟨_, rfl⟩
      rw [← hfr] at HR2
      have hif : (if fi < nx then nx else fi) = fr := by rw [hfr]; split <;> omega
      have hfr0 : 0 ≤ fr ∧ nx ≤ fr := by omega
      clear hfr
      by_cases hle : fr ≤ la
      · have k1 : decide (fr ≤ la) = true := decide_eq_true hle
        have HE := Lib.hid (show daysF (C.take (k + 1)) = (n + (la - fr + 1), la + 1) by rw [HR2.out, if_pos hle])
        have w2 : IntKind.i64.wrap (la - fr) = la - fr := IntWalk.i64_in _ (by omega)
        have w3 : IntKind.i64.wrap (la - fr + 1) = la - fr + 1 := IntWalk.i64_in _ (by omega)
        have w4 : IntKind.i64.wrap (n + (la - fr + 1)) = n + (la - fr + 1) := IntWalk.i64_in _ (by omega)
        have w5 : IntKind.i64.wrap (la + 1) = la + 1 := IntWalk.i64_in _ (by omega)
        go_wp2_with fail
        exact ⟨⟨k + 1, by omega, by go_num, by rw [HE.out], by rw [HE.out], hbV⟩, by simp [intOf]; omega⟩
      · have k1 : decide (fr ≤ la) = false := decide_eq_false hle
        have HE := Lib.hid (show daysF (C.take (k + 1)) = (n, nx) by rw [HR2.out, if_neg hle])
        go_wp2_with fail
        exact ⟨⟨k + 1, by omega, by go_num, by rw [HE.out], by rw [HE.out], hbV⟩, by simp [intOf]; omega⟩
    · have HE := Lib.hid (show C.take k = C from List.take_of_length_le (by omega))
      go_wp2
      go_ret
      exact ⟨ret_int (by rw [HE.out]), hb⟩
end Go.Proofs.YtngippiilgdnoaaGreat
