/-
  The fees of a product in a period follow one another and are those of its versions, on any ascending list of few products and any good period; otherwise the law asks only for its awake check. No condition on the arguments.
-/
import Derived.Test.YtkipebdhagccbaaLaw19e
import Derived.Test.YtkipebdhagccbaaAwake19
import Derived.Test.YtkipebdhagccbaaOpenPd
import Derived.Test.YtkipebdhagccbaaOpenPeriod
namespace Go.Proofs.Ytkipebdhagccbaa
open Go.ChangeShapes Go.WideShapes Go.ChangeAt Go.RowKit Go.Deep

set_option maxRecDepth 100000 in
theorem productCovers_lifted (os : Os) (started : os.Started) (H : Type) (enc : TypeId × Value → H) :
    ReturnsInHanded {} Try.checked os 14 .any (Rows.productCoversSpec.pre6 enc Try.prog Try.f14 Rows.productCoversRow.domain false) (Rows.productCoversSpec.post enc Try.prog Try.f14 false true false false) := by
  refine returnsInHanded_of_change (C := Try.checked) Try.own started (by kernel_rfl) Try.func14
    (ChangeSpec.witness6 (enc := enc) (C := Try.checked) false ⟨#[], #[.slice none 0 0, .string ByteArray.empty, .agg #[.int .i64 0, .int .i64 0]], []⟩ 8 (by kernel_rfl) (by kernel_rfl) (by kernel_rfl) (by kernel_rfl)) ?_
  intro W base args ds gs before hval0 hW hcnd _
  have hval : ∀ (j : Nat) t v, Try.f14.params[j]? = some t → args[j]? = some v → Value.okWide Try.prog W .any base t v := hval0
  have hW' := hW
  obtain ⟨p, q, hA1, hV, rfl, hfz, hnd⟩ := hW
  have hA : DataW.TrodAll enc Try.prog W 0 (fun _ => true) true Try.f14.params.toList args.toList ds p := hA1
  rw [Try.params14] at hA hval
  obtain ⟨v0, v1, v2, d0, d1, d2, p0, p1, p2, rfl, rfl, rfl, h0, h1, h2⟩ := trodAll_three hA
  obtain ⟨fuel0, hf0⟩ := h0
  obtain ⟨a0, len0, cap0, rfl⟩ := okWide_slice Try.underlying49 (hval 0 49 v0 rfl rfl)
  obtain ⟨l0, hl0⟩ := pds_of hf0
  obtain ⟨s1, rfl⟩ := okWide_string Try.underlying9 (hval 1 9 v1 rfl rfl)
  obtain ⟨ar2, rfl, har2⟩ := okWide_struct Try.underlying63 (hval 2 63 v2 rfl rfl)
  obtain ⟨fuel2, hf2⟩ := h2
  rw [Try.periodCells] at har2
  obtain ⟨cs2⟩ := ar2
  obtain ⟨f2, t2, rfl, bf2, bt2⟩ := open_period har2 hf2
  refine (covers19_law awake19_calls _ l0 s1 f2 t2 W hl0).mono fun e W' ⟨he, hb⟩ => ?_
  subst he
  refine ⟨_, rfl, law_post (tb := 4) Try.laidOut ?_ rfl (by kernel_rfl) Try.underlying4 rfl rfl rfl hW' hb⟩
  rw [Try.params14]
  intro t ht
  simp only [List.mem_cons, List.not_mem_nil, or_false] at ht
  rcases ht with rfl | rfl | rfl
  all_goals exact ⟨by kernel_rfl, of_decide_eq_true (by kernel_rfl)⟩

theorem productCovers_holds : Rows.ProductCoversSaid :=
  OpenClaim.holds_of_wide 14 Try.f14 rfl rfl rfl rfl rfl rfl rfl ⟨rfl, rfl, rfl, rfl, rfl⟩ rfl rfl rfl rfl rfl (by kernel_rfl) Try.func14 (by kernel_rfl)
    (of_decide_eq_true (by kernel_rfl)) (by unfold Func.isWrapper; first | (rw [if_pos (by decide +kernel)]; kernel_rfl) | (rw [if_neg (by decide +kernel)]; exact ⟨rfl, rfl⟩))
    (fun os started H enc _ => productCovers_lifted os started H enc)
#print axioms productCovers_holds
end Go.Proofs.Ytkipebdhagccbaa
