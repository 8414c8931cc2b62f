/-
  The prices of two parts that follow each other add up to that of the whole, and no price is negative; outside its bounds the law asks only for its awake check. No condition on the arguments.
-/
import Derived.Test.YtkipebdhagccbaaLaw29b
import Derived.Test.YtkipebdhagccbaaOpenSteps
namespace Go.Proofs.Ytkipebdhagccbaa
open Go.ChangeShapes Go.WideShapes Go.ChangeAt Go.RowKit Go.Deep

theorem open_pair {H : Type} {enc : TypeId × Value → H} {W : World} {base : Nat} {sp : Nat → Bool} {held : Bool} {ar : Array Value} {d : DataW H} {p : List MemPlace} (hs : ar.size = Try.prog.cellsOf 32) (h : DataW.Trod enc Try.prog W base sp held 32 (.agg ar) d p) :
    ∃ m n : Int, ar = #[.int .i64 m, .int .i64 n] := by
  rw [show Try.prog.cellsOf 32 = 2 by kernel_rfl] at hs
  obtain ⟨fuel, hf⟩ := h
  obtain ⟨xs, k, -, -, -, hl, hx⟩ := DataW.trod_array Try.underlying32 hf
  obtain ⟨l⟩ := ar
  match l, hs with
  | [a, b], _ =>
    have g0 := hx 0 (by omega)
    have g1 := hx 1 (by omega)
    simp only [Try.intCells, Value.cells, Nat.zero_mul, Nat.one_mul, List.drop, List.take] at g0 g1
    rw [List.getElem?_eq_getElem (by omega)] at g0 g1
    obtain ⟨m, e0, -, -⟩ := DataW.trod_int Try.underlying3 g0
    obtain ⟨n, e1, -, -⟩ := DataW.trod_int Try.underlying3 g1
    simp only [List.cons.injEq, and_true] at e0 e1
    subst e0; subst e1
    exact ⟨m, n, rfl⟩

set_option maxRecDepth 100000 in
theorem ladderParts_lifted (os : Os) (started : os.Started) (H : Type) (enc : TypeId × Value → H) :
    ReturnsInHanded {} Try.checked os 7 .any (Rows.ladderPartsSpec.pre6 enc Try.prog Try.f7 Rows.ladderPartsRow.domain false) (Rows.ladderPartsSpec.post enc Try.prog Try.f7 false true false false) := by
  refine returnsInHanded_of_change (C := Try.checked) Try.own started (by kernel_rfl) Try.func7
    (ChangeSpec.witness6 (enc := enc) (C := Try.checked) false ⟨#[], #[.slice none 0 0, .int .i64 0, .agg #[.int .i64 0, .int .i64 0]], []⟩ 8 (by kernel_rfl) (by kernel_rfl) (by kernel_rfl) (by kernel_rfl)) ?_
  intro W base args ds gs before hval0 hW hcnd _
  have hval : ∀ (j : Nat) t v, Try.f7.params[j]? = some t → args[j]? = some v → Value.okWide Try.prog W .any base t v := hval0
  have hW' := hW
  obtain ⟨p, q, hA0, hV, rfl, hfz, hnd⟩ := hW
  have hA : DataW.TrodAll enc Try.prog W 0 (fun _ => true) true Try.f7.params.toList args.toList ds p := hA0
  rw [Try.params7] at hA hval
  obtain ⟨v0, v1, v2, d0, d1, d2, p0, p1, p2, rfl, rfl, rfl, h0, h1, h2⟩ := trodAll_three hA
  obtain ⟨fuel, hf⟩ := h0
  obtain ⟨a0, len0, cap0, rfl⟩ := okWide_slice Try.underlying22 (hval 0 22 v0 rfl rfl)
  obtain ⟨l, hl⟩ := steps_of hf
  obtain ⟨n1, rfl, rfl, rfl, wf1⟩ := open_int Try.underlying3 (hval 1 3 v1 rfl rfl) h1
  have bd1 := bounds_i64 wf1
  obtain ⟨ar, rfl, har⟩ := okWide_arr Try.underlying32 (hval 2 32 v2 rfl rfl)
  obtain ⟨n2, n3, rfl⟩ := open_pair har h2
  refine (law_parts _ l n1 n2 n3 W hl).mono fun e W' ⟨he, hb⟩ => ?_
  subst he
  refine ⟨_, rfl, law_post (tb := 4) Try.laidOut ?_ rfl (by kernel_rfl) Try.underlying4 rfl rfl rfl hW' hb⟩
  rw [Try.params7]
  intro t ht
  simp only [List.mem_cons, List.not_mem_nil, or_false] at ht
  rcases ht with rfl | rfl | rfl
  all_goals exact ⟨by kernel_rfl, of_decide_eq_true (by kernel_rfl)⟩

theorem ladderParts_holds : Rows.LadderPartsSaid :=
  OpenClaim.holds_of_wide 7 Try.f7 rfl rfl rfl rfl rfl rfl rfl ⟨rfl, rfl, rfl, rfl, rfl⟩ rfl rfl rfl rfl rfl (by kernel_rfl) Try.func7 (by kernel_rfl)
    (of_decide_eq_true (by kernel_rfl)) (by unfold Func.isWrapper; first | (rw [if_pos (by decide +kernel)]; kernel_rfl) | (rw [if_neg (by decide +kernel)]; exact ⟨rfl, rfl⟩))
    (fun os started H enc _ => ladderParts_lifted os started H enc)
#print axioms ladderParts_holds
end Go.Proofs.Ytkipebdhagccbaa
