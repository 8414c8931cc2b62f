/-
  Carry adds to any bucket what its predecessor leaves, at most the rollover, as the specification says, for buckets with few zones and numbers of moderate size; otherwise the law asks only for its example. No condition on the arguments.
-/
import Derived.Test.YtngippiilgdnoaaMcbx
set_option maxRecDepth 100000
set_option maxHeartbeats 25600000
namespace Go.Proofs.Ytngippiilgdnoaa
open Go.ChangeShapes Go.WideShapes Go.ChangeAt Go.RowKit Go.Deep
theorem bundleCarries_lifted (os : Os) (started : os.Started) (H : Type) (enc : TypeId × Value → H) :
 ReturnsInHanded {} Try.checked os 3 .any (Rows.bundleCarriesSpec.pre6 enc Try.prog Try.f3 Rows.bundleCarriesRow.domain false) (Rows.bundleCarriesSpec.post enc Try.prog Try.f3 false true false false) := by
 refine returnsInHanded_of_change_sized (C := Try.checked) Try.own started (by kernel_rfl) Try.func3
  (ChangeSpec.witness6 (enc := enc) (C := Try.checked) false ⟨#[], #[.agg #[.int .i64 0, .int .i64 0, .string ByteArray.empty, .int .i64 0, .int .i64 0, .slice none 0 0, .int .i64 0, .int .i64 0, .int .i64 0, .int .i64 0, .int .i64 0, .bool false], .agg #[.int .i64 0, .int .i64 0, .string ByteArray.empty, .int .i64 0, .int .i64 0, .slice none 0 0, .int .i64 0, .int .i64 0, .int .i64 0, .int .i64 0, .int .i64 0, .bool false], .int .i64 0], []⟩ 8 (by kernel_rfl) (by kernel_rfl) (by kernel_rfl) (by kernel_rfl)) ?_
 intro W base args ds gs before hval0 hW hcnd hsz0 _
 have hval : ∀ (j : Nat) t v, Try.f3.params[j]? = some t → args[j]? = some v → Value.okWide Try.prog W .any base t v := hval0
 have hW' := hW
 obtain ⟨p, q, hA1, hV, rfl, hfz, hnd⟩ := hW
 have hA : DataW.TrodAll enc Try.prog W 0 (fun _ => true) true Try.f3.params.toList args.toList ds p := hA1
 have hsz : (DataW.weightsEach Try.prog (Try.f3.params.toList ++ Rows.bundleCarriesSpec.plain.varTypes Try.prog) (ds ++ gs)).all (· ≤ reachBytes) = true := hsz0
 rw [Try.params3] at hA hval hsz
 obtain ⟨v0, v1, v2, d0, d1, d2, p0, p1, p2, rfl, rfl, rfl, h0, h1, h2⟩ := trodAll_three hA
 obtain ⟨ar0, rfl, har0⟩ := okWide_struct Try.underlying26 (hval 0 26 v0 rfl rfl)
 obtain ⟨fuel0, hf0⟩ := h0
 rw [Try.buCells35] at har0
 obtain ⟨cs0⟩ := ar0
 obtain ⟨z0, rfl, hr0, -⟩ := bu_ofW har0 hf0 (within_each hsz (j := 0) rfl rfl)
 obtain ⟨ar1, rfl, har1⟩ := okWide_struct Try.underlying26 (hval 1 26 v1 rfl rfl)
 obtain ⟨fuel1, hf1⟩ := h1
 rw [Try.buCells35] at har1
 obtain ⟨cs1⟩ := ar1
 obtain ⟨z1, rfl, hr1, -⟩ := bu_ofW har1 hf1 (within_each hsz (j := 1) rfl rfl)
 obtain ⟨n2, rfl, rfl, rfl, wf2⟩ := open_int Try.underlying3 (hval 2 3 v2 rfl rfl) h2
 have bd2 := bounds_i64 wf2
 refine (carries35_law z0 z1 n2 W hr0 hr1).mono fun e W' ⟨he, hb⟩ => ?_
 subst he
 refine ⟨_, rfl, law_post (tb := 4) Try.laidOut ?_ rfl (by kernel_rfl) Try.underlying4 rfl rfl rfl hW' hb⟩
 rw [Try.params3]
 intro t ht
 simp only [List.mem_cons, List.not_mem_nil, or_false] at ht
 rcases ht with rfl | rfl | rfl
 all_goals exact ⟨by kernel_rfl, of_decide_eq_true (by kernel_rfl)⟩
theorem bundleCarries_holds : Rows.BundleCarriesSaid :=
 OpenClaim.holds_of_wide 3 Try.f3 rfl rfl rfl rfl rfl rfl rfl ⟨rfl, rfl, rfl, rfl, rfl⟩ rfl rfl rfl rfl rfl (by kernel_rfl) Try.func3 (by kernel_rfl)
  (of_decide_eq_true (by kernel_rfl)) (by unfold Func.isWrapper; first | (rw [if_pos (by decide +kernel)]; kernel_rfl) | (rw [if_neg (by decide +kernel)]; exact ⟨rfl, rfl⟩))
  (fun os started H enc _ => bundleCarries_lifted os started H enc)
#print axioms bundleCarries_holds
end Go.Proofs.Ytngippiilgdnoaa
