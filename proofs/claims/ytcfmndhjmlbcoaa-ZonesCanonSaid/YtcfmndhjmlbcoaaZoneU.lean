/-
  slices.SortFunc at an own row of numbers and at an own row of zones.
-/
import Derived.Test.YtcfmndhjmlbcoaaZoneR
namespace Go.Proofs.Ytcfmndhjmlbcoaa
open Go.RowKit Go.Sort

theorem cb_eq : ∀ x y : List UInt8, Lib.compareBytes x y = if x < y then -1 else if y < x then 1 else 0
  | [], [] => by simp [Lib.compareBytes]
  | [], _ :: _ => by simp [Lib.compareBytes]
  | _ :: _, [] => by simp [Lib.compareBytes]
  | a :: x, b :: y => by
    unfold Lib.compareBytes
    by_cases h : a < b
    · simp [List.cons_lt_cons_iff, h]
    · by_cases g : b < a
      · have hn : ¬ a = b := by rintro rfl; exact h g
        simp [List.cons_lt_cons_iff, h, g, hn]
      · have e : a = b := UInt8.le_antisymm (UInt8.not_lt.1 g) (UInt8.not_lt.1 h)
        subst e
        rw [if_neg h, if_neg h, cb_eq x y]
        simp [List.cons_lt_cons_iff]
theorem cb_cmpT (a b : ByteArray) : Lib.compareBytes a.data.toList b.data.toList = cmpT a b := cb_eq _ _

theorem strcmp_calls (a b : ByteArray) (w : World) : Calls Try.prog 75 #[.string a, .string b] w fun e w' => e = .returned (.int .i64 (cmpT a b)) ∧ w' = w := by
  rw [← cb_cmpT]
  exact Go.Proofs.Any.strings_Compare Try.strCmp a b w

instance decLtD (a b : ByteArray) : Decidable (ltD a b) := inferInstanceAs (Decidable (_ ∨ (_ ∧ _)))
def cmpB (x y : List UInt8) : Int := cmpD (textT x) (textT y)
theorem lt_cmpB (x y : List UInt8) : Go.Proofs.ltOf cmpB x y = decide (ltD (textT x) (textT y)) := decide_eq_decide.2 (cmpD_neg _ _)
theorem swoB : SWO (Go.Proofs.ltOf cmpB) where
  irrefl x := by rw [lt_cmpB]; exact decide_eq_false (ltD_irr _)
  trans x y z h1 h2 := by
    rw [lt_cmpB] at *
    exact decide_eq_true (ltD_trans (of_decide_eq_true h1) (of_decide_eq_true h2))
  ntrans x y z h1 h2 := by
    rw [lt_cmpB] at *
    refine decide_eq_false fun h => ?_
    have h1 := of_decide_eq_false h1
    have h2 := of_decide_eq_false h2
    by_cases g : ltD (textT y) (textT x)
    · exact h2 (ltD_trans g h)
    · rw [ltD_tri h1 g] at h
      exact h2 h

/-- A row of numbers sorted in place. -/
def SortedD (B g cap : Nat) (N : List ByteArray) (w : World) (e : Ending) (w' : World) : Prop :=
  e = .returned (.tuple #[]) ∧ w.grownBy w' (some g) ∧ ∃ S : List ByteArray, S.Perm N ∧ S.Pairwise (fun a b => ¬ ltD b a) ∧ S.length = N.length ∧ w'.ownsRow B 9 1 (.slice (some ⟨g, 0, none⟩) N.length cap) N.length (S.map Value.string)
theorem sortD_calls (B g cap : Nat) (N : List ByteArray) (w : World) (hown : w.ownsRow B 9 1 (.slice (some ⟨g, 0, none⟩) N.length cap) N.length (N.map Value.string)) (hl : N.length ≤ 10000) :
    Calls Try.prog 71 #[.slice (some ⟨g, 0, none⟩) N.length cap, .func (.func 72) #[] #[]] w (SortedD B g cap N w) := by
  rcases hown.2 with ⟨h, -⟩ | ⟨g', cap', cur, hv, hg, hh, h1, h2, h3, h4⟩
  · cases h
  · cases hv
    have hlt := (Array.getElem?_eq_some_iff.1 hh).1
    have hm : (N.map bytesT).length = N.length := List.length_map ..
    have hz : (N.map bytesT).toArray.size = N.length := by simp
    have he : (N.map bytesT).map encStr = N.map Value.string := by rw [List.map_map]; exact List.map_congr_left fun a _ => encStr_bytesT a
    have eg : ∀ args w, (callFunc 72 args).run Try.prog w = .ok (.enter 72 args) w := Go.Proofs.enters_of Try.func72 (by kernel_rfl) rfl
    have h := Go.Proofs.Any.slices_SortFunc Try.sortPr encStr (fun _ => rfl) cmpB swoB 72 #[] g 0 cap (N.map bytesT).toArray w eg (fun _ _ _ _ x y => dcompare_calls (textT x) (textT y) _) (holds_of_block hh (by rw [hm, he, ← h4, Nat.mul_one])) hlt (by rw [hz]; omega)
    rw [hz] at h
    change Calls Try.prog 71 _ _ _ at h
    refine h.mono ?_
    rintro e w' ⟨rfl, d', n, os, hp, hs, rfl⟩
    have hsz : d'.size = N.length := hp.1.trans hz
    have hpp := hp.2.2
    rw [show d'.extract 0 N.length = d' by rw [← hsz]; simp, show (N.map bytesT).toArray.extract 0 N.length = (N.map bytesT).toArray from Array.extract_eq_self_of_le (by rw [hz]; exact Nat.le_refl _)] at hpp
    have ho := ownsRow_sorted (n := n) (os := os) (ss := N.map bytesT) (ts := d'.toList) (base := B) (by simp [hsz]) hg hh (by rw [hm]; exact h1) h2 h3
    rw [hm] at ho
    refine ⟨rfl, grownBy_sorted _, d'.toList.map textT, ?_, ?_, by simp [hsz], ?_⟩
    · have h := hpp.map textT
      simp only [List.map_map] at h
      rw [show textT ∘ bytesT = id from funext textT_bytesT, List.map_id] at h
      exact h
    · rw [List.pairwise_iff_getElem]
      intro i j hi hj hij
      have hj' : j < d'.size := by simpa using hj
      have hi' : i < d'.size := by omega
      have h := hs i j (Nat.zero_le _) hij (by omega)
      rw [lt_cmpB, getElem!_pos d' j hj', getElem!_pos d' i hi'] at h
      simp only [List.getElem_map, Array.getElem_toList]
      exact of_decide_eq_false h
    · rw [List.map_map]
      exact ho

/-- A zone in a row of the call's own: its name, its slice, its prefixes. -/
abbrev Zr := ByteArray × (Option Addr × Nat × Nat) × List ByteArray
instance zrInh : Inhabited Zr := ⟨(ByteArray.empty, (none, 0, 0), [])⟩
def zrV (r : Zr) : Value := .slice r.2.1.1 r.2.1.2.1 r.2.1.2.2
def zrCells (r : Zr) : List Value := [.string r.1, zrV r]
def zrZn (r : Zr) : Zn := (r.1, r.2.2)

theorem strs_keep {w w' : World} {v : Value} {K : List ByteArray} (h : StrsAt w v K) (hs : w.heap.size ≤ w'.heap.size) (hb : ∀ g, g < w.heap.size → v.ownBlock = some g → w'.heap[g]? = w.heap[g]?) : StrsAt w' v K := by
  obtain ⟨av, cap, rfl, hl, hm, hc⟩ := h
  refine ⟨av, cap, rfl, hl, hm, fun hne => ?_⟩
  obtain ⟨b, o, rfl, hB, hx⟩ := hc hne
  refine ⟨b, o, rfl, Nat.lt_of_lt_of_le hB hs, fun i hi => ?_⟩
  have h1 := hx i hi
  have h2 := hb b hB rfl
  unfold StrR at *
  refine ⟨?_, h1.2⟩
  rw [← h1.1]
  simp only [World.cell?, h2]

/-- The rows' slices lie elsewhere than the block ob. -/
def RdZ (w : World) (ob : Option Nat) (R : List Zr) : Prop := ∀ r ∈ R, r.1.size ≤ maxLen ∧ StrsAt w (zrV r) r.2.2 ∧ ∀ g, (zrV r).ownBlock = some g → g < w.heap.size ∧ ob ≠ some g
theorem RdZ.grown {w w' : World} {ob : Option Nat} {R : List Zr} (h : RdZ w ob R) (hg : w.grownBy w' ob) : RdZ w' ob R := fun r hr => by
  obtain ⟨h1, h2, h3⟩ := h r hr
  exact ⟨h1, strs_keep h2 hg.size fun g hlt e => hg.block g hlt fun e2 => (h3 g e).2 e2.symm, fun g e => ⟨Nat.lt_of_lt_of_le (h3 g e).1 hg.size, (h3 g e).2⟩⟩

theorem znsAt_cells {w : World} {g cap : Nat} {S : List Zr} {ob : Option Nat} (hc : S.length ≤ cap) (hm : cap ≤ maxLen) (hg : g < w.heap.size) (hrd : RdZ w ob S)
    (h : ∀ i (hi : i < S.length), w.cell? ⟨g, i * 2, none⟩ = some (.string S[i].1) ∧ w.cell? ⟨g, i * 2 + 1, none⟩ = some (zrV S[i])) : ZnsAt w (.slice (some ⟨g, 0, none⟩) S.length cap) (S.map zrZn) := by
  have hl : (S.map zrZn).length = S.length := List.length_map ..
  rw [← hl]
  refine ⟨some ⟨g, 0, none⟩, cap, rfl, by omega, ⟨hm, fun h => by cases h⟩, fun _ => ⟨g, 0, rfl, hg, fun i hi => ?_⟩⟩
  have hi' : i < S.length := by omega
  obtain ⟨c0, c1⟩ := h i hi'
  obtain ⟨h1, h2, -⟩ := hrd S[i] (List.getElem_mem hi')
  rw [Nat.zero_add]
  have e : (S.map zrZn)[i] = zrZn S[i] := List.getElem_map ..
  rw [e]
  exact ⟨⟨c0, h1⟩, zrV S[i], c1, h2⟩
theorem znsAt_own {w : World} {base : Nat} {v : Value} {ob : Option Nat} {R : List Zr} (h : w.ownsRow base 62 2 v R.length (R.flatMap zrCells)) (hrd : RdZ w ob R) : ZnsAt w v (R.map zrZn) := by
  obtain ⟨-, h2⟩ := id h
  rcases h2 with ⟨rfl, h0⟩ | ⟨g, cap, cur, rfl, hB, hh, h1, h2, h3, h4⟩
  · obtain rfl : R = [] := List.length_eq_zero_iff.1 h0
    exact ⟨none, 0, rfl, Nat.le_refl _, ⟨Nat.zero_le _, fun _ => rfl⟩, fun h => absurd rfl h⟩
  · refine znsAt_cells h1 h2 (Array.getElem?_eq_some_iff.1 hh).1 hrd fun i hi => ?_
    have q0 := h.cellAt (i * 2) (by omega)
    have q1 := h.cellAt (i * 2 + 1) (by omega)
    have f0 := flat_get zrCells 2 (fun _ => rfl) R i 0 hi (by omega)
    have f1 := flat_get zrCells 2 (fun _ => rfl) R i 1 hi (by omega)
    rw [Nat.add_zero] at f0
    rw [q0, q1, f0, f1]
    exact ⟨rfl, rfl⟩

def zrCmp (x y : Zr) : Int := cmpT x.1 y.1
theorem zr_lt (x y : Zr) : Go.Proofs.ltOf zrCmp x y = decide (ltT x.1 y.1) := decide_eq_decide.2 (cmpT_neg _ _)
theorem zr_swo : SWO (Go.Proofs.ltOf zrCmp) where
  irrefl x := by rw [zr_lt]; exact decide_eq_false (ltT_irr _)
  trans x y z h1 h2 := by
    rw [zr_lt] at *
    exact decide_eq_true (ltT_trans (of_decide_eq_true h1) (of_decide_eq_true h2))
  ntrans x y z h1 h2 := by
    rw [zr_lt] at *
    refine decide_eq_false fun h => ?_
    have h1 := of_decide_eq_false h1
    have h2 := of_decide_eq_false h2
    by_cases g : ltT y.1 x.1
    · exact h2 (ltT_trans g h)
    · rw [ltT_tri h1 g] at h
      exact h2 h
theorem zr_one (x : Zr) : ∀ v ∈ zrCells x, v.oneCell' = true := by
  intro v hv
  simp only [zrCells, List.mem_cons, List.not_mem_nil, or_false] at hv
  rcases hv with rfl | rfl <;> rfl
theorem zcmp_calls (x y : Zr) (W : World) : Calls Try.prog 74 #[.agg #[.string x.1, zrV x], .agg #[.string y.1, zrV y]] W fun e w' => e = .returned (.int .i64 (zrCmp x y)) ∧ ∃ q os', w' = Go.Sort.grow (W.drewN q) os' := by
  have HC := Lib.hid (fun w1 => strcmp_calls x.1 y.1 w1)
  have HV := Lib.hid (show zrCmp x y = cmpT x.1 y.1 from rfl)
  unfold zrV
  obtain ⟨xn, ⟨xa, xl, xc⟩, xp⟩ := x
  obtain ⟨yn, ⟨ya, yl, yc⟩, yp⟩ := y
  dsimp only at HC HV ⊢
  go_enter Try.func74, Try.ntmps74
  go_wp2_with fail
  refine (HC.out _).mono ?_
  rintro e w2 ⟨rfl, rfl⟩
  go_wp2
  go_ret
  exact ⟨by rw [HV.out]; rfl, 0, _, by rw [alloc_eq_grow, alloc_eq_grow, grow_grow]; rfl⟩

/-- An own row of zones is held as the sort asks. -/
theorem zr_holds {w : World} {base : Nat} {e : TypeId} {g cap : Nat} {R : List Zr} (h : w.ownsRow base e 2 (.slice (some ⟨g, 0, none⟩) R.length cap) R.length (R.flatMap zrCells)) : HoldsK zrCells 2 w g 0 R.toArray := by
  intro j hj
  rw [size_flatK] at hj
  have hj2 : j < R.length * 2 := by simpa using hj
  refine ⟨?_, h.frozenAt _⟩
  rw [Nat.zero_add, h.cellAt j (by omega), get_flatK _ _ _ _ hj]
  have h1 : j / 2 < R.length := by omega
  have h2 := flat_get zrCells 2 (fun _ => rfl) R (j / 2) (j % 2) h1 (by omega)
  rw [show j / 2 * 2 + j % 2 = j by omega] at h2
  rw [h2, getElem!_pos R.toArray (j / 2) (by simpa using h1)]
  simp only [List.getElem_toArray]
  have h3 : j % 2 < (zrCells R[j / 2]).length := by show j % 2 < 2; omega
  rw [List.getElem!_eq_getElem?_getD, List.getElem?_eq_getElem h3]
  rfl
theorem zr_grown {w : World} {g n : Nat} {os : Array Obj} (d' : Array Zr) : w.grownBy (Go.Proofs.sortWorldK zrCells 2 w g 0 n d' os) (some g) := by
  unfold Go.Proofs.sortWorldK putRowK
  refine ⟨rfl, rfl, rfl, by simp [Sort.ahead], fun k hk hne => ?_⟩
  rw [heap_grow_old _ _ (by simpa [Sort.ahead] using hk)]
  have : g ≠ k := fun e => hne (by rw [e])
  simp [putRow, mapBlock, Sort.ahead, Array.getElem?_modify, this]

/-- A row of zones sorted. -/
def SortedZ (B : Nat) (R : List Zr) (v : Value) (w : World) (e : Ending) (w' : World) : Prop :=
  e = .returned (.tuple #[]) ∧ Below B w w' ∧ ∃ S : List Zr, S.Perm R ∧ S.Pairwise (fun x y => ¬ ltT y.1 x.1) ∧ ZnsAt w' v (S.map zrZn)
theorem sortZn_calls (B : Nat) (w : World) (v : Value) (R : List Zr) (hown : w.ownsRow B 62 2 v R.length (R.flatMap zrCells)) (hrd : RdZ w v.ownBlock R) (hB : B ≤ w.heap.size) (hl : R.length ≤ 8000) :
    Calls Try.prog 73 #[v, .func (.func 74) #[] #[]] w (SortedZ B R v w) := by
  have h2 := hown.2
  rcases h2 with ⟨hv, h0⟩ | ⟨g, cap, cur, hv, hg, hh, h1, h2, -⟩
  · subst hv
    obtain rfl : R = [] := List.length_eq_zero_iff.1 h0
    have h := Go.Proofs.AnyF.slices_SortFunc_none Try.sortZn none 0 (.func (.func 74) #[] #[]) w
    change Calls Try.prog 73 _ _ _ at h
    refine h.mono ?_
    rintro e w' ⟨rfl, rfl⟩
    exact ⟨rfl, Below.refl _ _, [], List.Perm.refl _, List.Pairwise.nil, SliceAt.nil _⟩
  · subst hv
    have hsz : R.toArray.size = R.length := by simp
    have hlt := (Array.getElem?_eq_some_iff.1 hh).1
    have hH := zr_holds hown
    have eg : ∀ args w, (callFunc 74 args).run Try.prog w = .ok (.enter 74 args) w := Go.Proofs.enters_of Try.func74 (by kernel_rfl) rfl
    have h := Go.Proofs.AnyQ.slices_SortFunc Try.sortZn 2 Try.isAgg62 Try.sizeOf62 zrCells (fun _ => rfl) zr_one zrCmp zr_swo 74 #[] g 0 cap R.toArray w eg (fun _ _ _ _ x y => zcmp_calls x y _) hH hlt (by rw [hsz]; omega)
    rw [hsz] at h
    change Calls Try.prog 73 _ _ _ at h
    refine h.mono ?_
    rintro e w' ⟨rfl, d', n, os, hp, hs, rfl⟩
    have hd : d'.size = R.length := hp.1.trans hsz
    have hpp := hp.2.2
    rw [show d'.extract 0 R.length = d' by rw [← hd]; simp, show R.toArray.extract 0 R.length = R.toArray from Array.extract_eq_self_of_le (by rw [hsz]; exact Nat.le_refl _)] at hpp
    have hgr := zr_grown (w := w) (g := g) (n := n) (os := os) d'
    have hH' := Go.Proofs.holdsK_sortWorldK_c zrCells 2 w g 0 R.toArray d' n os hH hlt hp.1
    have hpR : d'.toList.Perm R := hpp
    refine ⟨rfl, (Below.refl B w).grown hgr hB (fun k hk => by cases hk; exact hg), d'.toList, hpR, ?_, ?_⟩
    · rw [List.pairwise_iff_getElem]
      intro i j hi hj hij
      have hj' : j < d'.size := by simpa using hj
      have hi' : i < d'.size := by omega
      have h := hs i j (Nat.zero_le _) hij (by omega)
      rw [zr_lt, getElem!_pos d' j hj', getElem!_pos d' i hi'] at h
      simp only [Array.getElem_toList]
      exact of_decide_eq_false h
    · have hrd' : RdZ (Go.Proofs.sortWorldK zrCells 2 w g 0 n d' os) (some g) d'.toList := fun r hr => (hrd.grown hgr) r (hpR.mem_iff.1 hr)
      have hdl : d'.toList.length = R.length := by simp [hd]
      rw [← hdl]
      refine znsAt_cells (by omega) h2 (Nat.lt_of_lt_of_le hlt hgr.size) hrd' fun i hi => ?_
      have hi' : i < d'.size := by simpa using hi
      have q0 := (hH'.cell (i := i) (c := 0) hi' (by omega)).1
      have q1 := (hH'.cell (i := i) (c := 1) hi' (by omega)).1
      rw [getElem!_pos d' i hi'] at q0 q1
      simp only [Nat.zero_add, Nat.add_zero] at q0 q1
      simp only [Array.getElem_toList]
      exact ⟨q0, q1⟩
end Go.Proofs.Ytcfmndhjmlbcoaa
