/-
  Entry returns the entry of a statement, and its posts add up to zero (for a Net that is an amount and at most 20 charges; else the law asks only for its example). No condition on the arguments.
-/
import Derived.Test.YtohmdohbmmbbkaaDoorMgca
import Derived.Test.YtohmdohbmmbbkaaDoorMgcb
import Derived.Test.YtohmdohbmmbbkaaDoorRows
import Derived.Test.YtohmdohbmmbbkaaDoorTie
import Derived.Test.YtohmdohbmmbbkaaDoorCards
namespace Go.Proofs.YtohmdohbmmbbkaaDoor
open Go Go.ChangeShapes Go.WideShapes Go.ChangeAt Go.RowKit Go.Deep

/-- The start that the library's own initialisers lay meets what the row lists. -/
theorem settleEntries_door (os : Os) (args : Array Value) : laidMetH Tryd.prog Rows.settleEntriesRow.laid ((World.doorLaid Tryd.prog 4000 os).forCall (fun _ _ => 0) ⟨#[], args, []⟩).memory :=
  laidMetH_of_parts3 (fuel := 8) (laidMet_of_run' 8 (by kernel_rfl) (by kernel_rfl)) (by kernel_rfl) (by kernel_rfl)

set_option maxRecDepth 100000 in
theorem settleEntries_lifted (os : Os) (started : os.Started) (H : Type) (enc : TypeId × Value → H) :
    ReturnsInHanded {} Tryd.checked os 4 .any (fun w args => (Rows.settleEntriesSpec.pre enc Tryd.prog Tryd.f4 [] false w args ∧ laidMetH Tryd.prog Rows.settleEntriesRow.laid w) ∧ sizedMet enc Tryd.prog Tryd.f4 (OpenSpec.ofChange Rows.settleEntriesSpec) false w args)
      (Rows.settleEntriesSpec.post enc Tryd.prog Tryd.f4 false true false false) := by
  refine returnsInHanded_of_change_and (C := Tryd.checked) (X := fun w _ => laidMetH Tryd.prog Rows.settleEntriesRow.laid w) (fun _ _ _ hh h => h.of_heap hh) Tryd.own started (by kernel_rfl) Tryd.func4
    (ChangeSpec.witness_shaped (enc := enc) (C := Tryd.checked) (os := os) (X := fun w _ => laidMetH Tryd.prog Rows.settleEntriesRow.laid w) false (World.doorLaid Tryd.prog 4000 os) #[.agg #[.int .i64 0, .int .i64 0, .int .i64 0, .slice none 0 0, .int .i64 0], .int .i64 0] 8 rfl (World.shaped_of_RefB (by kernel_rfl) (by kernel_rfl)) (by kernel_rfl) (by kernel_rfl) (by kernel_rfl) (settleEntries_door os _)) ?_
  intro W base args ds gs before hval0 hW _ _ hL _
  have hval : ∀ (j : Nat) t v, Tryd.f4.params[j]? = some t → args[j]? = some v → Value.okWide Tryd.prog W .any base t v := hval0
  have hW' := hW
  obtain ⟨p, q, hA1, hV, rfl, hfz, hnd⟩ := hW
  have hA : DataW.TrodAll enc Tryd.prog W 0 (fun _ => true) true Tryd.f4.params.toList args.toList ds p := hA1
  rw [Tryd.params4] at hA hval
  obtain ⟨v0, v1, d0, d1, p0, p1, rfl, rfl, rfl, h0, h1⟩ := trodAll_two hA
  obtain ⟨ar0, rfl, har0⟩ := okWide_struct Tryd.underlying32 (hval 0 32 v0 rfl rfl)
  obtain ⟨fuel0, hf0⟩ := h0
  rw [Tryd.stmCells51] at har0
  obtain ⟨cs0⟩ := ar0
  obtain ⟨pa, mf, mt, ca, cn, cc, net, rfl, hcn, hpb⟩ := open_stm har0 hf0
  obtain ⟨n1, rfl, rfl, rfl, wf1⟩ := open_int Tryd.underlying3 (hval 1 3 v1 rfl rfl) h1
  have htab := pow10_of_laid hL
  have hI : ∀ w', Below W.heap.size W w' → Calls Tryd.prog 35 #[.int .i64 pa] w' fun e w'' => e = .returned (.string (numS pa)) ∧ Below w'.heap.size w' w'' := fun w' hb => by
    have h := Go.Proofs.Any.strconv_Itoa Tryd.itoaM pa hpb.1 hpb.2 w' (Go.Joins.tab_stays Tryd.gPow htab hb (Nat.le_refl _))
    change Calls Tryd.prog 35 _ _ _ at h
    refine h.mono ?_
    rintro e w'' ⟨rfl, k, os, rfl⟩
    exact ⟨rfl, below_grow_drewN _ _ _⟩
  refine (entries51_law pa mf mt net n1 ca cn cc W hcn hpb.1 hpb.2 hI).mono fun e W' ⟨he, hb⟩ => ?_
  subst he
  refine ⟨_, rfl, law_post (tb := 4) Tryd.laidOut ?_ rfl (by kernel_rfl) Tryd.underlying4 rfl rfl rfl hW' hb⟩
  rw [Tryd.params4]
  intro t ht
  simp only [List.mem_cons, List.not_mem_nil, or_false] at ht
  rcases ht with rfl | rfl
  all_goals exact ⟨by kernel_rfl, of_decide_eq_true (by kernel_rfl)⟩

theorem settleEntries_row : Rows.SettleEntriesSaid :=
  OpenClaim.holds_of_wide 4 Tryd.f4 rfl rfl rfl rfl rfl rfl rfl ⟨rfl, rfl, rfl, rfl, rfl⟩ rfl rfl rfl rfl rfl (by kernel_rfl) Tryd.func4 (by kernel_rfl)
    (of_decide_eq_true (by kernel_rfl)) (by unfold Func.isWrapper; first | (rw [if_pos (by decide +kernel)]; kernel_rfl) | (rw [if_neg (by decide +kernel)]; exact ⟨rfl, rfl⟩))
    (fun os started H enc _ => settleEntries_lifted os started H enc)

theorem settleEntries_holds : Rows.SettleEntriesCardSaid :=
  Claim7.holds_tied_plain_at .later [] [.data, .data, .data] true (true, "4f5e7ecba5a79a638c490b24133384a06dcecdb53ec69b74dfecf06f7a57a9f8") false
    settleEntries_row (fun _ h => by cases h) (by kernel_rfl) (fun _ h => by cases h) settleEntries_row_tie rfl ⟨rfl, rfl⟩ (by kernel_rfl) rfl
    (fun f fn hf hfn => by
      obtain rfl : f = 4 := Option.some.inj ((show Tryd.prog.funcNamed "billing/billinglaw51.SettleEntries" = some 4 by kernel_rfl).symm.trans hf) |>.symm
      obtain rfl : fn = Tryd.f4 := (Option.some.inj (Tryd.func4.symm.trans hfn)).symm
      exact ⟨by kernel_rfl, fun j t ht => by
        rw [Tryd.params4] at ht
        have hm : t ∈ [32, 3] := by simpa using Array.mem_of_getElem? ht
        have hall : ([32, 3].all fun u => !Tryd.prog.wantsStandIn u) = true := by kernel_rfl
        exact (show Tryd.prog.wantsStandIn t = false by simpa using List.all_eq_true.1 hall t hm)⟩)
    (by kernel_rfl)
#print axioms settleEntries_holds
end Go.Proofs.YtohmdohbmmbbkaaDoor
