/-
  An own row of agreements, sorted by slices.SortStableFunc where it is short.
-/
import Derived.Test.YtohmdohbmmbbkaaDoorMgbk
import Derived.Test.YtohmdohbmmbbkaaDoorMgad
import Derived.Test.YtohmdohbmmbbkaaDoorMgax
import Derived.Shelf.SlSortCmp.InsertionK
import Derived.Laws.OwnMore
namespace Go.Proofs.YtohmdohbmmbbkaaDoor
open Go.RowKit Go.Sort

/-- One agreement stands ahead of another one. -/
def befLt (x y : Ag) : Prop := x.kd < y.kd ∨ (x.kd = y.kd ∧ (rk x.ib < rk y.ib ∨ (rk x.ib = rk y.ib ∧ x.fr < y.fr)))
instance befDec (x y : Ag) : Decidable (befLt x y) := inferInstanceAs (Decidable (_ ∨ (_ ∧ (_ ∨ (_ ∧ _)))))
theorem befV_neg (x y : Ag) : befV x y < 0 ↔ befLt x y := by
  unfold befV befLt
  generalize rk x.ib = a
  generalize rk y.ib = b
  unfold orV3 cmpI
  by_cases h1 : x.kd < y.kd
  · simp [h1]
  · by_cases h2 : y.kd < x.kd
    · have : ¬ x.kd = y.kd := by omega
      simp [h1, h2, this]
    · have e1 : x.kd = y.kd := by omega
      by_cases h3 : a < b
      · simp [e1, h3]
      · by_cases h4 : b < a
        · have : ¬ a = b := by omega
          simp [e1, h3, h4, this]
        · have e2 : a = b := by omega
          by_cases h5 : x.fr < y.fr
          · simp [e1, e2, h5]
          · by_cases h6 : y.fr < x.fr
            · simp [e1, e2, h5, h6]
            · simp [e1, e2, h5, h6]

/-- An agreement in a row of the call's own: its steps' slice. -/
abbrev Agx := Ag × (Option Addr × Nat × Nat)
instance agxInh : Inhabited Agx := ⟨(⟨0, 0, false, 0, 0, [], 0⟩, (none, 0, 0))⟩
def agxV (r : Agx) : Value := .slice r.2.1 r.2.2.1 r.2.2.2
def agxCells (r : Agx) : List Value := [.int .i64 r.1.pa, .int .i64 r.1.kd, .bool r.1.ib, .int .i64 r.1.fr, .int .i64 r.1.tt, agxV r, .int .i64 r.1.cap]
def agxCmp (x y : Agx) : Int := befV x.1 y.1
theorem agx_lt (x y : Agx) : Go.Proofs.ltOf agxCmp x y = decide (befLt x.1 y.1) := decide_eq_decide.2 (befV_neg _ _)
theorem agx_swo : SWO (Go.Proofs.ltOf agxCmp) where
  irrefl x := by rw [agx_lt]; exact decide_eq_false (by unfold befLt; omega)
  trans x y z h1 h2 := by
    rw [agx_lt] at *
    have h1 := of_decide_eq_true h1
    have h2 := of_decide_eq_true h2
    unfold befLt at h1 h2
    exact decide_eq_true (by unfold befLt; omega)
  ntrans x y z h1 h2 := by
    rw [agx_lt] at *
    have h1 := of_decide_eq_false h1
    have h2 := of_decide_eq_false h2
    unfold befLt at h1 h2
    exact decide_eq_false (by unfold befLt; omega)
theorem agx_one (x : Agx) : ∀ v ∈ agxCells x, v.oneCell' = true := by
  intro v hv
  simp only [agxCells, List.mem_cons, List.not_mem_nil, or_false] at hv
  rcases hv with rfl | rfl | rfl | rfl | rfl | rfl | rfl <;> rfl

theorem steps_keep {w w' : World} {v : Value} {K : List St} (h : StepsAt w v K) (hs : w.heap.size ≤ w'.heap.size) (hb : K ≠ [] → ∀ g, g < w.heap.size → v.ownBlock = some g → w'.heap[g]? = w.heap[g]?) : StepsAt w' v K := by
  obtain ⟨av, cap, rfl, hl, hc⟩ := h
  refine ⟨av, cap, rfl, hl, fun hne => ?_⟩
  obtain ⟨b, o, rfl, hB, hx⟩ := hc hne
  refine ⟨b, o, rfl, Nat.lt_of_lt_of_le hB hs, fun i hi => ?_⟩
  have h2 := hb hne b hB rfl
  obtain ⟨h3, h4, h5⟩ := hx i hi
  exact ⟨(World.cell?_of_block (a := ⟨b, _, none⟩) h2).trans h3, (World.cell?_of_block (a := ⟨b, _, none⟩) h2).trans h4, (World.cell?_of_block (a := ⟨b, _, none⟩) h2).trans h5⟩

/-- The rows' steps lie elsewhere than the block ob. -/
def RdA (w : World) (ob : Option Nat) (R : List Agx) : Prop := ∀ r ∈ R, StepsAt w (agxV r) r.1.st ∧ NilOk (agxV r) ∧ (r.1.st ≠ [] → ∀ g, (agxV r).ownBlock = some g → g < w.heap.size ∧ ob ≠ some g)
theorem RdA.grown {w w' : World} {ob : Option Nat} {R : List Agx} (h : RdA w ob R) (hg : w.grownBy w' ob) : RdA w' ob R := fun r hr => by
  obtain ⟨h1, h2, h3⟩ := h r hr
  exact ⟨steps_keep h1 hg.size fun hn g hlt e => hg.block g hlt fun e2 => (h3 hn g e).2 e2.symm, h2, fun hn g e => ⟨Nat.lt_of_lt_of_le (h3 hn g e).1 hg.size, (h3 hn g e).2⟩⟩
theorem agsAt_cells {w : World} {g cap : Nat} {S : List Agx} {ob : Option Nat} (hc : S.length ≤ cap) (hm : cap ≤ maxLen) (hg : g < w.heap.size) (hrd : RdA w ob S)
    (h : ∀ i (hi : i < S.length) j, j < 7 → w.cell? ⟨g, i * 7 + j, none⟩ = (agxCells S[i])[j]?) : AgsAt w (.slice (some ⟨g, 0, none⟩) S.length cap) (S.map (·.1)) := by
  have hl : (S.map (fun r : Agx => r.1)).length = S.length := List.length_map ..
  rw [← hl]
  refine ⟨some ⟨g, 0, none⟩, cap, rfl, by omega, ⟨hm, fun h => by cases h⟩, fun _ => ⟨g, 0, rfl, hg, fun i hi => ?_⟩⟩
  have hi' : i < S.length := by omega
  obtain ⟨h1, h2, -⟩ := hrd S[i] (List.getElem_mem hi')
  have e : (S.map (fun r : Agx => r.1))[i] = S[i].1 := List.getElem_map ..
  rw [e, Nat.zero_add]
  exact ⟨h i hi' 0 (by omega), h i hi' 1 (by omega), h i hi' 2 (by omega), h i hi' 3 (by omega), h i hi' 4 (by omega), ⟨_, h i hi' 5 (by omega), h1, h2⟩, h i hi' 6 (by omega)⟩

/-- An own row of agreements is held as the sort asks. -/
theorem agx_holds {w : World} {base : Nat} {e : TypeId} {g cap : Nat} {R : List Agx} (h : w.ownsRow base e 7 (.slice (some ⟨g, 0, none⟩) R.length cap) R.length (R.flatMap agxCells)) : HoldsK agxCells 7 w g 0 R.toArray := by
  intro j hj
  rw [size_flatK] at hj
  have hj2 : j < R.length * 7 := by simpa using hj
  refine ⟨?_, h.frozenAt _⟩
  rw [Nat.zero_add, h.cellAt j (by omega), get_flatK _ _ _ _ hj]
  have h1 : j / 7 < R.length := by omega
  have h2 := flat_get agxCells 7 (fun _ => rfl) R (j / 7) (j % 7) h1 (by omega)
  rw [show j / 7 * 7 + j % 7 = j by omega] at h2
  rw [h2, getElem!_pos R.toArray (j / 7) (by simpa using h1)]
  simp only [List.getElem_toArray]
  have h3 : j % 7 < (agxCells R[j / 7]).length := by show j % 7 < 7; omega
  rw [List.getElem!_eq_getElem?_getD, List.getElem?_eq_getElem h3]
  rfl
theorem agx_grown {w : World} {g n : Nat} {os : Array Obj} (d' : Array Agx) : w.grownBy (Go.Proofs.sortWorldK agxCells 7 w g 0 n d' os) (some g) := by
  unfold Go.Proofs.sortWorldK putRowK
  refine ⟨rfl, rfl, rfl, by simp [Sort.ahead], fun k hk hne => ?_⟩
  rw [heap_grow_old _ _ (by simpa [Sort.ahead] using hk)]
  have : g ≠ k := fun e => hne (by rw [e])
  simp [putRow, mapBlock, Sort.ahead, Array.getElem?_modify, this]

/-- A row of agreements sorted. -/
def SortedA (B : Nat) (R : List Agx) (v : Value) (w : World) (e : Ending) (w' : World) : Prop :=
  e = .returned (.tuple #[]) ∧ Below B w w' ∧ ∃ S : List Agx, S.Perm R ∧ S.Pairwise (fun x y => ¬ befLt y.1 x.1) ∧ AgsAt w' v (S.map (·.1))
theorem insA_calls (B : Nat) (w : World) (g cap : Nat) (R : List Agx) (hown : w.ownsRow B 53 7 (.slice (some ⟨g, 0, none⟩) R.length cap) R.length (R.flatMap agxCells)) (hrd : RdA w (some g) R) (hB : B ≤ w.heap.size) (hl : R.length ≤ 8000) :
    Calls Tryd.prog 62 #[.slice (some ⟨g, 0, none⟩) R.length cap, .int .i64 0, .int .i64 R.length, .func (.func 24) #[] #[]] w (SortedA B R (.slice (some ⟨g, 0, none⟩) R.length cap) w) := by
  have h2 := hown.2
  rcases h2 with ⟨hv, -⟩ | ⟨g', cap', cur, hv, hg, hh, h1, h2, -⟩
  · cases hv
  · cases hv
    have hsz : R.toArray.size = R.length := by simp
    have hlt := (Array.getElem?_eq_some_iff.1 hh).1
    have hH := agx_holds hown
    have eg : ∀ args w, (callFunc 24 args).run Tryd.prog w = .ok (.enter 24 args) w := Go.Proofs.enters_of Tryd.func24 (by kernel_rfl) rfl
    have h := Go.Proofs.AnyQ.insertionSortCmpFunc Tryd.insAg 7 Tryd.isAgg53 Tryd.sizeOf53 agxCells (fun _ => rfl) agx_one agxCmp 24 #[] g 0 cap 0 R.length R.toArray w eg (fun _ _ _ _ x y => before_calls x.1 y.1 _ _ _ _ _ _ _) hH hlt (Nat.zero_le _) (by rw [hsz]; exact Nat.le_refl _) (by rw [hsz]; omega)
    rw [hsz] at h
    change Calls Tryd.prog 62 _ _ _ at h
    refine h.mono ?_
    rintro e w' ⟨rfl, n, os, rfl⟩
    obtain ⟨hp, hs⟩ := insertionSort_holds agx_swo R.toArray 0 R.length (Nat.zero_le _) (by rw [hsz]; exact Nat.le_refl _)
    generalize Sort.insertionSort (Go.Proofs.ltOf agxCmp) R.toArray 0 R.length = d' at *
    have hd : d'.size = R.length := hp.1.trans hsz
    have hpp := hp.2.2
    rw [show d'.extract 0 R.length = d' by rw [← hd]; simp, show R.toArray.extract 0 R.length = R.toArray from Array.extract_eq_self_of_le (by rw [hsz]; exact Nat.le_refl _)] at hpp
    have hgr := agx_grown (w := w) (g := g) (n := n) (os := os) d'
    have hH' := Go.Proofs.holdsK_sortWorldK_c agxCells 7 w g 0 R.toArray d' n os hH hlt hp.1
    have hpR : d'.toList.Perm R := hpp
    refine ⟨rfl, (Below.refl B w).grown hgr hB (fun k hk => by cases hk; exact hg), d'.toList, hpR, ?_, ?_⟩
    · rw [List.pairwise_iff_getElem]
      intro i j hi hj hij
      have hj' : j < d'.size := by simpa using hj
      have hi' : i < d'.size := by omega
      have h := hs i j (Nat.zero_le _) hij (by omega)
      rw [agx_lt, getElem!_pos d' j hj', getElem!_pos d' i hi'] at h
      simp only [Array.getElem_toList]
      exact of_decide_eq_false h
    · have hrd' : RdA (Go.Proofs.sortWorldK agxCells 7 w g 0 n d' os) (some g) d'.toList := fun r hr => (hrd.grown hgr) r (hpR.mem_iff.1 hr)
      have hdl : d'.toList.length = R.length := by simp [hd]
      rw [← hdl]
      refine agsAt_cells (by omega) h2 (Nat.lt_of_lt_of_le hlt hgr.size) hrd' fun i hi j hj => ?_
      have hi' : i < d'.size := by simpa using hi
      have q := (hH'.cell (i := i) (c := j) hi' hj).1
      rw [getElem!_pos d' i hi', Nat.zero_add] at q
      rw [q]
      simp only [Array.getElem_toList]
      have h3 : j < (agxCells d'[i]).length := hj
      rw [List.getElem!_eq_getElem?_getD, List.getElem?_eq_getElem h3]
      rfl
end Go.Proofs.YtohmdohbmmbbkaaDoor
