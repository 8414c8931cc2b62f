/-
  Of few valid agreements with few steps at most one fits any usage, and it is found; otherwise the law asks only for its awake check. No condition on the arguments.
-/
import Derived.Test.YtmijdmchhlcblaaLaw50c
import Derived.Test.YtmijdmchhlcblaaAwake50
import Derived.Test.YtmijdmchhlcblaaOpenAg
namespace Go.Proofs.Ytmijdmchhlcblaa
open Go.ChangeShapes Go.WideShapes Go.ChangeAt Go.RowKit Go.Deep

theorem Try.usageCells : Try.prog.cellsOf 61 = 4 := by kernel_rfl

theorem open_usage {H : Type} {enc : TypeId × Value → H} {W : World} {sp : Nat → Bool} {fuel : Nat} {cs : List Value} {x : DataW H × List MemPlace} (hl : cs.length = 4) (h : DataW.trod enc Try.prog W 0 sp true fuel 61 cs = some x) :
    ∃ (pa kd : Int) (ib : Bool) (t : Int), cs = [.int .i64 pa, .int .i64 kd, .bool ib, .int .i64 t] := by
  obtain ⟨pa, e0, -⟩ := int_field Try.underlying61 h Try.underlying3 Try.intCells 0 0 rfl
  obtain ⟨kd, e1, -⟩ := int_field Try.underlying61 h Try.underlying3 Try.intCells 1 1 rfl
  obtain ⟨ib, e2⟩ := bool_field Try.underlying61 h Try.underlying4 Try.boolCells1 2 2 rfl
  obtain ⟨t, e3, -⟩ := int_field Try.underlying61 h Try.underlying3 Try.intCells 3 3 rfl
  match cs, hl with
  | [v0, v1, v2, v3], _ =>
    simp only [List.drop, List.take, List.cons.injEq, and_true] at e0 e1 e2 e3
    subst e0; subst e1; subst e2; subst e3
    exact ⟨pa, kd, ib, t, rfl⟩

set_option maxRecDepth 100000 in
theorem agreementOne_lifted (os : Os) (started : os.Started) (H : Type) (enc : TypeId × Value → H) :
    ReturnsInHanded {} Try.checked os 12 .any (Rows.agreementOneSpec.pre6 enc Try.prog Try.f12 Rows.agreementOneRow.domain false) (Rows.agreementOneSpec.post enc Try.prog Try.f12 false true false false) := by
  refine returnsInHanded_of_change (C := Try.checked) Try.own started (by kernel_rfl) Try.func12
    (ChangeSpec.witness6 (enc := enc) (C := Try.checked) false ⟨#[], #[.slice none 0 0, .agg #[.int .i64 0, .int .i64 0, .bool false, .int .i64 0]], []⟩ 8 (by kernel_rfl) (by kernel_rfl) (by kernel_rfl) (by kernel_rfl)) ?_
  intro W base args ds gs before hval0 hW hcnd _
  have hval : ∀ (j : Nat) t v, Try.f12.params[j]? = some t → args[j]? = some v → Value.okWide Try.prog W .any base t v := hval0
  have hW' := hW
  obtain ⟨p, q, hA1, hV, rfl, hfz, hnd⟩ := hW
  have hA : DataW.TrodAll enc Try.prog W 0 (fun _ => true) true Try.f12.params.toList args.toList ds p := hA1
  rw [Try.params12] at hA hval
  obtain ⟨v0, v1, d0, d1, p0, p1, rfl, rfl, rfl, h0, h1⟩ := trodAll_two hA
  obtain ⟨fuel0, hf0⟩ := h0
  obtain ⟨a0, len0, cap0, rfl⟩ := okWide_slice Try.underlying51 (hval 0 51 v0 rfl rfl)
  obtain ⟨l0, hl0⟩ := ags_of hf0
  obtain ⟨ar1, rfl, har1⟩ := okWide_struct Try.underlying61 (hval 1 61 v1 rfl rfl)
  obtain ⟨fuel1, hf1⟩ := h1
  rw [Try.usageCells] at har1
  obtain ⟨cs1⟩ := ar1
  obtain ⟨pa1, kd1, ib1, t1, rfl⟩ := open_usage har1 hf1
  refine (one50_law alive50_calls _ l0 pa1 kd1 ib1 t1 W hl0).mono fun e W' ⟨he, hb⟩ => ?_
  subst he
  refine ⟨_, rfl, law_post (tb := 4) Try.laidOut ?_ rfl (by kernel_rfl) Try.underlying4 rfl rfl rfl hW' hb⟩
  rw [Try.params12]
  intro t ht
  simp only [List.mem_cons, List.not_mem_nil, or_false] at ht
  rcases ht with rfl | rfl
  all_goals exact ⟨by kernel_rfl, of_decide_eq_true (by kernel_rfl)⟩

theorem agreementOne_holds : Rows.AgreementOneSaid :=
  OpenClaim.holds_of_wide 12 Try.f12 rfl rfl rfl rfl rfl rfl rfl ⟨rfl, rfl, rfl, rfl, rfl⟩ rfl rfl rfl rfl rfl (by kernel_rfl) Try.func12 (by kernel_rfl)
    (of_decide_eq_true (by kernel_rfl)) (by unfold Func.isWrapper; first | (rw [if_pos (by decide +kernel)]; kernel_rfl) | (rw [if_neg (by decide +kernel)]; exact ⟨rfl, rfl⟩))
    (fun os started H enc _ => agreementOne_lifted os started H enc)
#print axioms agreementOne_holds
end Go.Proofs.Ytmijdmchhlcblaa
