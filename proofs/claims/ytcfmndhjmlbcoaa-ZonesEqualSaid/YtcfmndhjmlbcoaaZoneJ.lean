/-
  The chapter's examples: the walk of the laws' awake.
-/
import Derived.Test.YtcfmndhjmlbcoaaZoneX
namespace Go.Proofs.Ytcfmndhjmlbcoaa
open Go.RowKit Go.Sort

abbrev tHome : ByteArray := ⟨#[104, 111, 109, 101]⟩
abbrev tMob : ByteArray := ⟨#[109, 111, 98, 105, 108, 101]⟩
abbrev t49 : ByteArray := ⟨#[52, 57]⟩
abbrev t4930 : ByteArray := ⟨#[52, 57, 51, 48]⟩
abbrev t4915 : ByteArray := ⟨#[52, 57, 49, 53]⟩
def exL : List Zn := [(tHome, [t49, t4930]), (tMob, [t4915])]
def exK : List Zn := [(tMob, [t4915]), (tHome, [t49])]
def exT : List Zn := [(tHome, [t49, t4930, t4915]), (tMob, [t4915])]
def exM : List Zn := [(tHome, [t49]), (tMob, [t4915])]

theorem ex_f1 : findZ exL ⟨#[52, 57, 49, 53, 49, 50, 51, 52]⟩ = (tMob, true) := by kernel_rfl
theorem ex_f2 : findZ exL t4930 = (tHome, true) := by kernel_rfl
theorem ex_f3 : findZ exL ⟨#[51, 51]⟩ = (ByteArray.empty, false) := by kernel_rfl
theorem ex_c : checkZ exL = 0 := by kernel_rfl
theorem ex_t : checkZ exT = 10 := by kernel_rfl
theorem ex_k : checkZ exK = 0 := by kernel_rfl
theorem ex_e : eqZ exL exK = true := by kernel_rfl
theorem ex_p : prs exM = (prs exL).filter (keepP (prs exL)) := by kernel_rfl
theorem ltT_dec {a b : ByteArray} (h : Op.bytesLess a.toList b.toList = true) : ltT a b := of_decide_eq_true ((less_ltT a b).symm.trans h)
theorem ex_m : MinOf exL exM := by
  unfold MinOf
  rw [if_neg (not_not_intro ex_c)]
  refine ⟨⟨?_, ?_⟩, fun x => ?_⟩
  · exact List.pairwise_cons.2 ⟨fun z hz => by simp only [List.mem_singleton] at hz; rw [hz]; exact ltT_dec (by kernel_rfl), List.pairwise_singleton _ _⟩
  · intro z hz
    rcases List.mem_cons.1 hz with rfl | hz
    · exact ⟨by simp, List.pairwise_singleton _ _⟩
    · simp only [List.mem_singleton] at hz
      rw [hz]
      exact ⟨by simp, List.pairwise_singleton _ _⟩
  · rw [ex_p, List.mem_filter]

theorem sortT_sorted (N : List ByteArray) : (sortT N).Pairwise (fun a b => ¬ ltT b a) := by
  unfold sortT
  rw [List.pairwise_map]
  have h := List.pairwise_mergeSort (le := fun x y : List UInt8 => decide (x ≤ y)) (fun a b c h1 h2 => decide_eq_true (List.le_trans (of_decide_eq_true h1) (of_decide_eq_true h2))) (fun a b => by
    rcases List.le_total a b with h | h
    · rw [decide_eq_true h]; rfl
    · rw [decide_eq_true h, Bool.or_true]) (N.map bytesT)
  refine h.imp fun {a b} hab => ?_
  unfold ltT
  rw [bytesT_textT, bytesT_textT]
  exact List.not_lt.2 (of_decide_eq_true hab)
theorem sortT_one {N S : List ByteArray} (hn : N.Nodup) (hp : S.Perm N) (hs : S.Pairwise ltT) : sortT N = S := by
  have h1 : (sortT N).Pairwise ltT := List.Pairwise.imp₂ (fun a b (n1 : ¬ ltT b a) (n2 : a ≠ b) => Classical.byContradiction fun n3 => n2 (ltT_tri n3 n1)) (sortT_sorted N) ((sortT_perm N).nodup_iff.2 hn)
  exact pw_ext ltT_irr (fun _ _ => ltT_asymm) _ _ h1 hs fun x => (sortT_perm N).mem_iff.trans hp.mem_iff.symm
theorem ex_n : namesZ exK = [tHome, tMob] := by
  unfold namesZ
  rw [if_neg (not_not_intro ex_k)]
  have hlt : ltT tHome tMob := ltT_dec (by kernel_rfl)
  refine sortT_one (checkZ_ok ex_k).2.2.2 (List.Perm.swap _ _ _) ?_
  exact List.pairwise_cons.2 ⟨fun z hz => by simp only [List.mem_singleton] at hz; rw [hz]; exact hlt, List.pairwise_singleton _ _⟩

/-- A literal row of texts. -/
theorem strs_block {w : World} {g : Nat} {t : TypeId} (L : List ByteArray) (hr : w.heap[g]? = some (Obj.cells (L.map Value.string).toArray t)) (hs : ∀ s ∈ L, s.size ≤ maxLen) (hl : L.length ≤ maxLen) (n : Nat) (hn : n = L.length) : StrsAt w (.slice (some ⟨g, 0, none⟩) n n) L := by
  subst hn
  refine ⟨_, _, rfl, Nat.le_refl _, ⟨hl, fun h => by cases h⟩, fun _ => ⟨g, 0, rfl, (Array.getElem?_eq_some_iff.1 hr).1, fun i hi => ⟨?_, hs _ (List.getElem_mem hi)⟩⟩⟩
  simp [World.cell?, hr, hi]
theorem zns2_block {w : World} {g : Nat} {t : TypeId} (a b : Zn) (va vb : Value) (hr : w.heap[g]? = some (Obj.cells #[.string a.1, va, .string b.1, vb] t)) (ha : StrsAt w va a.2) (hb : StrsAt w vb b.2) (sa : a.1.size ≤ maxLen) (sb : b.1.size ≤ maxLen) : ZnsAt w (.slice (some ⟨g, 0, none⟩) 2 2) [a, b] := by
  refine ⟨_, _, rfl, Nat.le_refl _, ⟨by decide, fun h => by cases h⟩, fun _ => ⟨g, 0, rfl, (Array.getElem?_eq_some_iff.1 hr).1, fun i hi => ?_⟩⟩
  match i, hi with
  | 0, _ => exact ⟨⟨by simp [World.cell?, hr], sa⟩, va, by simp [World.cell?, hr], ha⟩
  | 1, _ => exact ⟨⟨by simp [World.cell?, hr], sb⟩, vb, by simp [World.cell?, hr], hb⟩
end Go.Proofs.Ytcfmndhjmlbcoaa
