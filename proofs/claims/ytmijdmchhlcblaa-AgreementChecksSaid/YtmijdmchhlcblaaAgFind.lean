/-
  The walk of agreement.Find.
-/
import Derived.Test.YtmijdmchhlcblaaAgLaw
import Derived.Test.YtmijdmchhlcblaaRow
import Derived.Laws.AppendOwnNone
namespace Go.Proofs.Ytmijdmchhlcblaa
open Go.RowKit

theorem Try.stepInfo : (Try.prog.info? 67).map (fun i => (i.zero, i.size, i.bytes)) = some (some (.agg #[.int .i64 0, .int .i64 0, .int .i64 0]), 3, 24) := by kernel_rfl

/-- Does an agreement fit a usage? -/
def fitsB (pa kd : Int) (ib : Bool) (t : Int) (a : Ag) : Bool := decide (a.pa = pa) && decide (a.kd = kd) && decide (a.ib = ib) && containsB a.fr a.tt t

/-- What Find returns, as far as the laws look at it. -/
def FindTo (w : World) (r : Bool) (e : Ending) (w' : World) : Prop :=
  ∃ (p k : Int) (i : Bool) (f t : Int) (av : Option Addr) (n cap : Nat) (c : Int), e = .returned (.tuple #[.agg #[.int .i64 p, .int .i64 k, .bool i, .int .i64 f, .int .i64 t, .slice av n cap, .int .i64 c], .bool r]) ∧ Below w.heap.size w w'

def ZeroAt (w : World) (B : Nat) : Prop :=
  (w.cell? ⟨B, 0, none⟩ = some (.int .i64 0) ∧ w.cell? ⟨B, 1, none⟩ = some (.int .i64 0) ∧ w.cell? ⟨B, 2, none⟩ = some (.bool false) ∧ w.cell? ⟨B, 3, none⟩ = some (.int .i64 0) ∧ w.cell? ⟨B, 4, none⟩ = some (.int .i64 0) ∧ w.cell? ⟨B, 5, none⟩ = some (.slice none 0 0) ∧ w.cell? ⟨B, 6, none⟩ = some (.int .i64 0)) ∧
    w.frozen? ⟨B, 0, none⟩ = false ∧ w.frozen? ⟨B, 1, none⟩ = false ∧ w.frozen? ⟨B, 2, none⟩ = false ∧ w.frozen? ⟨B, 3, none⟩ = false ∧ w.frozen? ⟨B, 4, none⟩ = false ∧ w.frozen? ⟨B, 5, none⟩ = false ∧ w.frozen? ⟨B, 6, none⟩ = false
theorem zero_of {w : World} {B : Nat} (h : w.heap[B]? = some (Obj.cells #[.int .i64 0, .int .i64 0, .bool false, .int .i64 0, .int .i64 0, .slice none 0 0, .int .i64 0] 55)) : ZeroAt w B :=
  ⟨⟨cell_of_row w _ 0 _ _ _ h, cell_of_row w _ 1 _ _ _ h, cell_of_row w _ 2 _ _ _ h, cell_of_row w _ 3 _ _ _ h, cell_of_row w _ 4 _ _ _ h, cell_of_row w _ 5 _ _ _ h, cell_of_row w _ 6 _ _ _ h⟩,
    by simp [World.frozen?, h], by simp [World.frozen?, h], by simp [World.frozen?, h], by simp [World.frozen?, h], by simp [World.frozen?, h], by simp [World.frozen?, h], by simp [World.frozen?, h]⟩

def stCells (s : St) : List Value := [.int .i64 s.u, .int .i64 s.q, .int .i64 s.p]
theorem st_cells {w : World} {b o : Nat} {l : List St} (h : ∀ i (hi : i < l.length), StCells w b (o + i * 3) l[i]) : ∀ j u, (l.flatMap stCells)[j]? = some u → w.cell? (Addr.add ⟨b, o, none⟩ j) = some u := by
  intro j u hu
  have hj : j < l.length * 3 := by
    have := (List.getElem?_eq_some_iff.1 hu).1
    rwa [flat_length stCells 3 (fun _ => rfl)] at this
  have hi : j / 3 < l.length := by omega
  have e := flat_get stCells 3 (fun _ => rfl) l (j / 3) (j % 3) hi (by omega)
  rw [show j / 3 * 3 + j % 3 = j by omega, hu] at e
  obtain ⟨h0, h1, h2⟩ := h (j / 3) hi
  rw [Go.WideShapes.add_plain]
  rw [show o + j = o + j / 3 * 3 + j % 3 by omega]
  have hm : j % 3 < 3 := by omega
  match j % 3, hm, e with
  | 0, _, e => rw [Nat.add_zero, h0]; exact e.symm
  | 1, _, e => rw [h1]; exact e.symm
  | 2, _, e => rw [h2]; exact e.symm

set_option linter.unusedSimpArgs false in
set_option maxRecDepth 100000 in
set_option maxHeartbeats 6400000 in
theorem agfind_calls (v : Value) (l : List Ag) (pa kd : Int) (ib : Bool) (t : Int) (w : World) (h : AgsAt w v l) (hf : l.length ≤ 4096) (hfew : ∀ a ∈ l, a.st.length ≤ 100) :
    Calls Try.prog 38 #[v, .int .i64 pa, .int .i64 kd, .bool ib, .int .i64 t] w (FindTo w (l.any (fitsB pa kd ib t))) := by
  have hh := h
  obtain ⟨av, cap, rfl, hlc, hm, -⟩ := h
  have hm := hm.1
  unfold maxLen at hm
  have Hfew := Lib.hid hfew
  clear hfew
  go_enter Try.func38, Try.ntmps38
  go_wp2_with fail
  obtain ⟨W, hW⟩ : ∃ W, W = w.alloc (Obj.cells #[.int .i64 0, .int .i64 0, .bool false, .int .i64 0, .int .i64 0, .slice none 0 0, .int .i64 0] 55) := ⟨_, rfl⟩
  have hw0 : Below w.heap.size w W := by rw [hW]; go_grown
  have r2 : W.heap[w.heap.size]? = some (Obj.cells #[.int .i64 0, .int .i64 0, .bool false, .int .i64 0, .int .i64 0, .slice none 0 0, .int .i64 0] 55) := by rw [hW]; exact heap_alloc_new _ _
  have hz2 : w.heap.size < W.heap.size := by rw [hW]; simp
  have Hr := Lib.hid r2
  rw [← hW]
  clear hW r2
  go_loopw [16] (fun i wr => ∃ k : Nat, k ≤ l.length ∧ i = .int .i64 k ∧ (l.take k).any (fitsB pa kd ib t) = false ∧ Below W.heap.size W wr) (fun i _ => l.length - (intOf i).toNat)
  case atStart => exact ⟨0, Nat.zero_le _, rfl, rfl, Below.refl _ _⟩
  case round =>
    obtain ⟨k, hk, rfl, he, hb⟩ := hrel
    have He := Lib.hid he
    clear he
    have hbz := hb.size
    have hbw := hw0.trans (hb.mono hw0.size)
    by_cases hlk : k < l.length
    · obtain ⟨av2, cap2, e2, -, -, hx⟩ := hh.below hbw
      cases e2
      obtain ⟨b, o, rfl, hB, hx⟩ := hx (by rintro rfl; cases hlk)
      obtain ⟨c0, c1, c2, c3, c4, ⟨sv, c5, hsv, hnil⟩, c6⟩ := hx k hlk
      have hk0 : (0 : Int) ≤ (k : Int) := Int.natCast_nonneg _
      have hk1 : (k : Int) < (l.length : Int) := by omega
      have HF := Lib.hid (fun h2 => any_snoc (p := fitsB pa kd ib t) hlk He.out h2)
      have HT := Lib.hid (show fitsB pa kd ib t l[k] = true → l.any (fitsB pa kd ib t) = true from fun h2 => List.any_eq_true.2 ⟨l[k], List.getElem_mem hlk, h2⟩)
      have Hst := Lib.hid (Hfew.out l[k] (List.getElem_mem hlk))
      clear hx
      obtain ⟨a, ha⟩ : ∃ a, a = l[k] := ⟨_, rfl⟩
      rw [← ha] at c0 c1 c2 c3 c4 hsv c6 HF HT Hst
      clear ha
      have Hsv := Lib.hid hsv
      obtain ⟨az, cz, rfl, -, -⟩ := hsv
      have Hnil := Lib.hid hnil
      obtain ⟨X, hX⟩ : ∃ X, X = wr.alloc (Obj.cells #[.int .i64 a.pa, .int .i64 a.kd, .bool a.ib, .int .i64 a.fr, .int .i64 a.tt, .slice az a.st.length cz, .int .i64 a.cap] 55) := ⟨_, rfl⟩
      have hbX : Below wr.heap.size wr X := by rw [hX]; go_grown
      have hlX : wr.heap.size < X.heap.size := by rw [hX]; simp
      have rX : X.heap[wr.heap.size]? = some (Obj.cells #[.int .i64 a.pa, .int .i64 a.kd, .bool a.ib, .int .i64 a.fr, .int .i64 a.tt, .slice az a.st.length cz, .int .i64 a.cap] 55) := by rw [hX]; exact heap_alloc_new _ _
      have HX := Lib.hid hX
      have RX := Lib.hid rX
      have Ho := Lib.hid (of_calls a _ X (Hsv.out.below hbX))
      unfold agVal at Ho
      clear hX rX hnil
      by_cases e1 : a.pa = pa
      · have t1 : (a.pa == pa) = true := by rw [e1]; exact beq_self_eq_true _
        by_cases e2 : a.kd = kd
        · have t2 : (a.kd == kd) = true := by rw [e2]; exact beq_self_eq_true _
          by_cases e3 : a.ib = ib
          · have t3 : (a.ib == ib) = true := by rw [e3]; exact beq_self_eq_true _
            have hfit : fitsB pa kd ib t a = containsB a.fr a.tt t := by unfold fitsB; simp [e1, e2, e3]
            have Hfit := Lib.hid hfit
            clear e1 e2 e3 hfit
            have T := Lib.hid (And.intro t1 (And.intro t2 t3))
            have Hc := Lib.hid (fun w1 => contains_calls a.fr a.tt t w1)
            clear t1 t2 t3
            generalize hct : containsB a.fr a.tt t = ct at *
            clear hct
            cases ct with
            | false =>
              have HN := Lib.hid (HF.out Hfit.out)
              clear HF HT Hfit Hfew
              go_wp2_with fail
              rw [← HX.out]
              refine Ho.out.mono ?_
              rintro e w1 ⟨rfl, hb1⟩
              have hb2 := hbX.trans (hb1.mono hbX.size)
              have hb3 := hb.trans (hb2.mono hbz)
              have m := (hb1.block _ hlX).trans RX.out
              have g3 : w1.cell? ⟨wr.heap.size, 3, none⟩ = some (.int .i64 a.fr) := cell_of_row w1 _ 3 _ _ _ m
              have g4 : w1.cell? ⟨wr.heap.size, 4, none⟩ = some (.int .i64 a.tt) := cell_of_row w1 _ 4 _ _ _ m
              obtain ⟨t1, t2, t3⟩ := T.out
              clear m
              go_wp2_with fail
              refine (Hc.out w1).mono ?_
              rintro e w2 ⟨rfl, hb4⟩
              have hb5 := hb3.trans (hb4.mono hb3.size)
              go_wp2
              exact ⟨⟨k + 1, by omega, by go_num, HN.out, hb5⟩, by simp [intOf]; omega⟩
            | true =>
              have HN := Lib.hid (HT.out Hfit.out)
              clear HF HT Hfit Hfew
              go_wp2_with fail
              rw [← HX.out]
              refine Ho.out.mono ?_
              rintro e w1 ⟨rfl, hb1⟩
              have hb2 := hbX.trans (hb1.mono hbX.size)
              have hb3 := hb.trans (hb2.mono hbz)
              have m := (hb1.block _ hlX).trans RX.out
              have g3 : w1.cell? ⟨wr.heap.size, 3, none⟩ = some (.int .i64 a.fr) := cell_of_row w1 _ 3 _ _ _ m
              have g4 : w1.cell? ⟨wr.heap.size, 4, none⟩ = some (.int .i64 a.tt) := cell_of_row w1 _ 4 _ _ _ m
              have Hm := Lib.hid m
              obtain ⟨t1, t2, t3⟩ := T.out
              clear m
              go_wp2_with fail
              refine (Hc.out w1).mono ?_
              rintro e w2 ⟨rfl, hb4⟩
              have hb5 := hb3.trans (hb4.mono hb3.size)
              have hlw1 : wr.heap.size < w1.heap.size := Nat.lt_of_lt_of_le hlX hb1.size
              have m2 := (hb4.block _ hlw1).trans Hm.out
              have x0 : w2.cell? ⟨wr.heap.size, 0, none⟩ = some (.int .i64 a.pa) := cell_of_row w2 _ 0 _ _ _ m2
              have x1 : w2.cell? ⟨wr.heap.size, 1, none⟩ = some (.int .i64 a.kd) := cell_of_row w2 _ 1 _ _ _ m2
              have x2 : w2.cell? ⟨wr.heap.size, 2, none⟩ = some (.bool a.ib) := cell_of_row w2 _ 2 _ _ _ m2
              have x3 : w2.cell? ⟨wr.heap.size, 3, none⟩ = some (.int .i64 a.fr) := cell_of_row w2 _ 3 _ _ _ m2
              have x4 : w2.cell? ⟨wr.heap.size, 4, none⟩ = some (.int .i64 a.tt) := cell_of_row w2 _ 4 _ _ _ m2
              have x5 : w2.cell? ⟨wr.heap.size, 5, none⟩ = some (.slice az a.st.length cz) := cell_of_row w2 _ 5 _ _ _ m2
              have x6 : w2.cell? ⟨wr.heap.size, 6, none⟩ = some (.int .i64 a.cap) := cell_of_row w2 _ 6 _ _ _ m2
              have fx : w2.frozen? ⟨wr.heap.size, 5, none⟩ = false := by simp [World.frozen?, m2]
              have hsv2 := Hsv.out.below (hb2.trans (hb4.mono hb2.size))
              have hz3 := (hb5.block _ hz2).trans Hr.out
              have hbw5 := hw0.trans (hb5.mono hw0.size)
              have hlw2 : wr.heap.size < w2.heap.size := Nat.lt_of_lt_of_le hlw1 hb4.size
              have M2 := Lib.hid m2
              have Z3 := Lib.hid hz3
              clear g3 g4 m2 hz3 t1 t2 t3
              cases az with
              | none =>
                obtain ⟨hn0, hc0⟩ := Hnil.out _ _ rfl
                have Hn0 := Lib.hid hn0
                subst hc0
                rw [hn0] at *
                obtain ⟨i0, hi, hz0', hz1', hz2'⟩ := info_parts Try.stepInfo
                have Hi := Lib.hid hi
                clear hi hz0' hz1' hz2' hn0 hsv2
                obtain ⟨⟨y0, y1, y2, y3, y4, y5, y6⟩, z0, z1, z2, z3, z4, z5, z6⟩ := zero_of Z3.out
                have hne : ¬ wr.heap.size = w.heap.size := by omega
                have hne2 : ¬ w.heap.size = wr.heap.size := by omega
                go_wp2_with (at_builtin; refine wpList_append_own_none rfl _ _ 22 rfl w2.heap.size 67 i0 3 Try.underlying22 Hi.out _ 0 [] rfl ⟨rfl, Or.inl ⟨rfl, rfl⟩⟩ rfl ?_)
                rw [HN.out]
                exact bodyPost_ret (v := .tuple #[.agg #[.int .i64 a.pa, .int .i64 a.kd, .bool a.ib, .int .i64 a.fr, .int .i64 a.tt, .slice none 0 0, .int .i64 a.cap], .bool true]) (by simp [results, Try.results38, go_sem, y0, y1, y2, y3, y4, y5, y6]) rfl ⟨_, _, _, _, _, _, _, _, _, rfl, by go_grown⟩
              | some az =>
                obtain ⟨i0, hi, hz0', hz1', hz2'⟩ := info_parts Try.stepInfo
                have Hi := Lib.hid (And.intro hi (And.intro hz0' (And.intro hz1' hz2')))
                have Hsv2 := Lib.hid hsv2
                have hstl := Hst.out
                clear hi hz0' hz1' hz2' hsv2 x0 x1 x2 x3 x4 x6
                go_wp2_with (at_builtin; refine wpList_append_own _ rfl _ _ 22 rfl w2.heap.size 67 i0 _ 3 24 Try.underlying22 Hi.out.1 Hi.out.2.1 Hi.out.2.2.1 Hi.out.2.2.2 rfl (by decide) _ 0 [] rfl ⟨rfl, Or.inl ⟨rfl, rfl⟩⟩ az a.st.length cz (a.st.flatMap stCells) rfl ?c0 ?c1 ?c2 ?c3 ?c4 ?c5 ?_)
                case c0 => exact flat_length stCells 3 (fun _ => rfl) a.st
                case c1 =>
                  intro j u hu
                  have hne : a.st ≠ [] := by intro e; rw [e] at hu; simp at hu
                  obtain ⟨av', cap', e, -, hxx⟩ := Hsv2.out
                  cases e
                  obtain ⟨b', o', e', hB', hyy⟩ := hxx hne
                  cases e'
                  exact st_cells hyy j u hu
                case c2 =>
                  intro u hu
                  obtain ⟨s, -, hs⟩ := List.mem_flatMap.1 hu
                  simp only [stCells, List.mem_cons, List.not_mem_nil, or_false] at hs
                  rcases hs with rfl | rfl | rfl <;> rfl
                case c3 => unfold maxLen; omega
                case c4 => omega
                case c5 => exact Nat.le_refl _
                intro v' w3 hown3 hgrow _
                have hb6 : Below w2.heap.size w2 w3 := (Below.refl _ _).grown hgrow (Nat.le_refl _) (fun g hg => by cases hg)
                obtain ⟨a3, k3, rfl, -, -⟩ := own_shape hown3
                have hb7 := hbw5.trans (hb6.mono hbw5.size)
                have m3 := (hb6.block _ hlw2).trans M2.out
                have x0 : w3.cell? ⟨wr.heap.size, 0, none⟩ = some (.int .i64 a.pa) := cell_of_row w3 _ 0 _ _ _ m3
                have x1 : w3.cell? ⟨wr.heap.size, 1, none⟩ = some (.int .i64 a.kd) := cell_of_row w3 _ 1 _ _ _ m3
                have x2 : w3.cell? ⟨wr.heap.size, 2, none⟩ = some (.bool a.ib) := cell_of_row w3 _ 2 _ _ _ m3
                have x3 : w3.cell? ⟨wr.heap.size, 3, none⟩ = some (.int .i64 a.fr) := cell_of_row w3 _ 3 _ _ _ m3
                have x4 : w3.cell? ⟨wr.heap.size, 4, none⟩ = some (.int .i64 a.tt) := cell_of_row w3 _ 4 _ _ _ m3
                have x5 : w3.cell? ⟨wr.heap.size, 5, none⟩ = some (.slice (some az) a.st.length cz) := cell_of_row w3 _ 5 _ _ _ m3
                have x6 : w3.cell? ⟨wr.heap.size, 6, none⟩ = some (.int .i64 a.cap) := cell_of_row w3 _ 6 _ _ _ m3
                have fx : w3.frozen? ⟨wr.heap.size, 5, none⟩ = false := by simp [World.frozen?, m3]
                obtain ⟨⟨y0, y1, y2, y3, y4, y5, y6⟩, z0, z1, z2, z3, z4, z5, z6⟩ := zero_of ((hb6.block _ (by have := hbw5.size; omega)).trans Z3.out)
                have hne : ¬ wr.heap.size = w.heap.size := by omega
                have hne2 : ¬ w.heap.size = wr.heap.size := by omega
                have hle3 : w.heap.size ≤ wr.heap.size := by omega
                clear hown3 hgrow m3 hb6
                go_wp2
                rw [HN.out]
                exact bodyPost_ret (v := .tuple #[.agg #[.int .i64 a.pa, .int .i64 a.kd, .bool a.ib, .int .i64 a.fr, .int .i64 a.tt, .slice a3 (0 + a.st.length) k3, .int .i64 a.cap], .bool true]) (by simp [results, Try.results38, go_sem, y0, y1, y2, y3, y4, y5, y6]) rfl ⟨_, _, _, _, _, _, _, _, _, rfl, by go_grown⟩
          · have t3 : (a.ib == ib) = false := beq_eq_false_iff_ne.2 e3
            have HN := Lib.hid (HF.out (by unfold fitsB; rw [decide_eq_false e3]; simp))
            clear e1 e2 e3 HF HT Hfew
            go_wp2_with fail
            rw [← HX.out]
            refine Ho.out.mono ?_
            rintro e w1 ⟨rfl, hb1⟩
            have hb2 := hbX.trans (hb1.mono hbX.size)
            have hb3 := hb.trans (hb2.mono hbz)
            go_wp2
            exact ⟨⟨k + 1, by omega, by go_num, HN.out, hb3⟩, by simp [intOf]; omega⟩
        · have t2 : (a.kd == kd) = false := beq_eq_false_iff_ne.2 e2
          have HN := Lib.hid (HF.out (by unfold fitsB; rw [decide_eq_false e2]; simp))
          clear e1 e2 HF HT Hfew
          go_wp2_with fail
          rw [← HX.out]
          refine Ho.out.mono ?_
          rintro e w1 ⟨rfl, hb1⟩
          have hb2 := hbX.trans (hb1.mono hbX.size)
          have hb3 := hb.trans (hb2.mono hbz)
          go_wp2
          exact ⟨⟨k + 1, by omega, by go_num, HN.out, hb3⟩, by simp [intOf]; omega⟩
      · have t1 : (a.pa == pa) = false := beq_eq_false_iff_ne.2 e1
        have HN := Lib.hid (HF.out (by unfold fitsB; rw [decide_eq_false e1]; simp))
        clear e1 HF HT Hfew
        go_wp2_with fail
        rw [← HX.out]
        refine Ho.out.mono ?_
        rintro e w1 ⟨rfl, hb1⟩
        have hb2 := hbX.trans (hb1.mono hbX.size)
        have hb3 := hb.trans (hb2.mono hbz)
        go_wp2
        exact ⟨⟨k + 1, by omega, by go_num, HN.out, hb3⟩, by simp [intOf]; omega⟩
    · have hall : l.any (fitsB pa kd ib t) = false := by have := He.out; rwa [List.take_of_length_le (by omega)] at this
      have HN := Lib.hid hall
      obtain ⟨⟨y0, y1, y2, y3, y4, y5, y6⟩, z0, z1, z2, z3, z4, z5, z6⟩ := zero_of ((hb.block _ hz2).trans Hr.out)
      clear hall hh
      go_wp2
      rw [HN.out]
      exact bodyPost_ret (v := .tuple #[.agg #[.int .i64 0, .int .i64 0, .bool false, .int .i64 0, .int .i64 0, .slice none 0 0, .int .i64 0], .bool false]) (by simp [results, Try.results38, go_sem, y0, y1, y2, y3, y4, y5, y6]) rfl ⟨_, _, _, _, _, _, _, _, _, rfl, by go_grown⟩
end Go.Proofs.Ytmijdmchhlcblaa
