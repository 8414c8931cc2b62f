/-
  Few agreements; and the plain law that at most one of valid agreements fits a usage.
-/
import Derived.Test.YtohmdohbmmbbkaaDoorMgaq
import Derived.Test.YtohmdohbmmbbkaaDoorMgar
namespace Go.Proofs.YtohmdohbmmbbkaaDoor
open Go.RowKit

def fewA (a : Ag) : Bool := decide (a.st.length ≤ 8)
def fewAs (l : List Ag) : Bool := decide (l.length ≤ 12) && l.all fewA
theorem fewAs_of {l : List Ag} (h : fewAs l = true) : l.length ≤ 12 ∧ ∀ a ∈ l, a.st.length ≤ 8 := by
  unfold fewAs fewA at h
  simp only [Bool.and_eq_true, decide_eq_true_eq, List.all_eq_true] at h
  exact h

theorem all_snocA (p : Ag → Bool) (l : List Ag) (k : Nat) (h : k < l.length) : (l.take (k + 1)).all p = ((l.take k).all p && p l[k]) := by
  rw [List.take_succ_eq_append_getElem h, List.all_append]; simp
theorem all_falseA (p : Ag → Bool) (l : List Ag) (k : Nat) (h : k < l.length) (hf : p l[k] = false) : l.all p = false := by
  rw [List.all_eq_false]
  exact ⟨l[k], List.getElem_mem h, by rw [hf]; decide⟩

set_option maxRecDepth 100000 in
set_option maxHeartbeats 1600000 in
theorem few50_calls (v : Value) (l : List Ag) (w : World) (h : AgsAt w v l) :
    Calls Tryd.prog 16 #[v] w fun e w' => e = .returned (.bool (fewAs l)) ∧ w = w' := by
  have hh := h
  obtain ⟨av, cap, rfl, hlc, hm, -⟩ := h
  have hm := hm.1
  unfold maxLen at hm
  by_cases h12 : 12 < l.length
  · have h13 : decide (12 < (l.length : Int)) = true := decide_eq_true (by omega)
    have H := Lib.hid (show fewAs l = false by unfold fewAs; rw [decide_eq_false (by omega)]; rfl)
    go_enter Tryd.func16, Tryd.ntmps16
    go_wp2
    go_ret
    exact ⟨ret_bool H.out.symm, rfl⟩
  · have h13 : decide (12 < (l.length : Int)) = false := decide_eq_false (by omega)
    have HL := Lib.hid (show fewAs l = l.all fewA by unfold fewAs; rw [decide_eq_true (by omega)]; rfl)
    go_enter Tryd.func16, Tryd.ntmps16
    go_wp2_with fail
    go_loop [3] (fun i => ∃ k : Nat, k ≤ l.length ∧ i = .int .i64 k ∧ (l.take k).all fewA = true) (fun i => l.length - (intOf i).toNat)
    case atStart => exact ⟨0, Nat.zero_le _, rfl, rfl⟩
    case round =>
      obtain ⟨k, hk, rfl, ha⟩ := hrel
      have Ha := Lib.hid ha
      clear ha
      by_cases hlt : k < l.length
      · obtain ⟨av2, cap2, e2, -, -, hx⟩ := hh
        cases e2
        obtain ⟨b, o, rfl, hB, hx⟩ := hx (by rintro rfl; cases hlt)
        obtain ⟨-, -, -, -, -, ⟨sv, c5, hsv, -⟩, -⟩ := hx k hlt
        have hs := all_snocA fewA l k hlt
        have hf := all_falseA fewA l k hlt
        rw [Ha.out, Bool.true_and] at hs
        clear hx
        obtain ⟨az, cz, rfl, hz, -⟩ := hsv
        unfold maxLen at hz
        have hk0 : (0 : Int) ≤ (k : Int) := Int.natCast_nonneg _
        have hk1 : (k : Int) < (l.length : Int) := by omega
        by_cases h8 : l[k].st.length ≤ 8
        · have H := Lib.hid (hs.trans (show fewA l[k] = true from decide_eq_true h8))
          clear hs hf
          generalize l[k].st.length = n at *
          have h9 : decide (8 < (n : Int)) = false := decide_eq_false (by omega)
          go_wp2
          go_round
          case rel => exact ⟨k + 1, by omega, by go_num, H.out⟩
          case measure => simp [intOf]; omega
        · have H := Lib.hid (show fewAs l = false by rw [HL.out]; exact hf (decide_eq_false h8))
          clear hs hf
          generalize l[k].st.length = n at *
          have h9 : decide (8 < (n : Int)) = true := decide_eq_true (by omega)
          go_wp2
          go_ret
          exact ⟨ret_bool H.out.symm, rfl⟩
      · have e : l.take k = l := List.take_of_length_le (by omega)
        have H := Lib.hid (show fewAs l = true by rw [HL.out, ← e]; exact Ha.out)
        clear e
        go_wp2
        go_ret
        exact ⟨ret_bool H.out.symm, rfl⟩

/-! ### At most one fits -/
theorem agsE_zero : ∀ (r L : List Ag), agsE L r = 0 → ∀ i (hi : i < r.length), faultE r[i] = 0 ∧ (L ++ r.take i).any (meets r[i]) = false := by
  intro r
  induction r with
  | nil => intro L _ i hi; cases hi
  | cons a r ih =>
    intro L h i hi
    rw [agsE] at h
    by_cases h1 : faultE a ≠ 0
    · rw [if_pos h1] at h; exact absurd h h1
    · rw [if_neg h1] at h
      by_cases h2 : L.any (meets a) = true
      · rw [if_pos h2] at h; cases h
      · rw [if_neg h2] at h
        match i, hi with
        | 0, hi => exact ⟨Classical.not_not.1 h1, by simpa using h2⟩
        | i + 1, hi =>
          have := ih (L ++ [a]) h i (by simpa using hi)
          rw [List.append_assoc] at this
          exact this

theorem fits_meet {pa kd : Int} {ib : Bool} {t : Int} {a b : Ag} (ha : fitsB pa kd ib t a = true) (hb : fitsB pa kd ib t b = true) : meets a b = true := by
  unfold fitsB at ha hb
  simp only [Bool.and_eq_true, decide_eq_true_eq] at ha hb
  obtain ⟨⟨⟨a1, a2⟩, a3⟩, a4⟩ := ha
  obtain ⟨⟨⟨b1, b2⟩, b3⟩, b4⟩ := hb
  have ca := (containsB_iff _ _ _).1 a4
  have cb := (containsB_iff _ _ _).1 b4
  refine meets_yes ((meetB_iff _ _ _ _).2 ⟨(validB_iff _ _).2 ca.1, (validB_iff _ _).2 cb.1, ?_⟩) (a1.trans b1.symm) (a2.trans b2.symm) (a3.trans b3.symm)
  omega

theorem fits_pair {l : List Ag} (h : agCheckE l = 0) (pa kd : Int) (ib : Bool) (t : Int) : l.Pairwise fun a b => ¬ (fitsB pa kd ib t a = true ∧ fitsB pa kd ib t b = true) := by
  have h0 : agsE [] l = 0 := by
    unfold agCheckE at h
    by_cases h1 : 4096 < l.length
    · rw [if_pos h1] at h; cases h
    · rwa [if_neg h1] at h
  rw [List.pairwise_iff_getElem]
  intro i j hi hj hij ⟨ha, hb⟩
  have := (agsE_zero l [] h0 j hj).2
  rw [List.nil_append, List.any_eq_false] at this
  refine this l[i] ?_ (fits_meet hb ha)
  rw [List.mem_take_iff_getElem]
  exact ⟨i, by omega, rfl⟩

theorem fits_one {l : List Ag} (h : agCheckE l = 0) (pa kd : Int) (ib : Bool) (t : Int) : (l.filter (fitsB pa kd ib t)).length = if l.any (fitsB pa kd ib t) = true then 1 else 0 := by
  have hp := (fits_pair h pa kd ib t).filter (fitsB pa kd ib t)
  cases e : l.filter (fitsB pa kd ib t) with
  | nil =>
    have : l.any (fitsB pa kd ib t) = false := by
      rw [List.any_eq_false]
      intro x hx hf
      have : x ∈ l.filter (fitsB pa kd ib t) := List.mem_filter.2 ⟨hx, hf⟩
      rw [e] at this; cases this
    rw [this]; rfl
  | cons a r =>
    have ha : a ∈ l.filter (fitsB pa kd ib t) := by rw [e]; simp
    obtain ⟨h1, h2⟩ := List.mem_filter.1 ha
    rw [if_pos (List.any_eq_true.2 ⟨a, h1, h2⟩)]
    cases r with
    | nil => rfl
    | cons b r =>
      exfalso
      have hb : b ∈ l.filter (fitsB pa kd ib t) := by rw [e]; simp
      rw [e] at hp
      exact (List.pairwise_cons.1 hp).1 b (by simp) ⟨h2, (List.mem_filter.1 hb).2⟩

theorem filt_snoc (p : Ag → Bool) (l : List Ag) (k : Nat) (h : k < l.length) : ((l.take (k + 1)).filter p).length = ((l.take k).filter p).length + if p l[k] = true then 1 else 0 := by
  rw [List.take_succ_eq_append_getElem h, List.filter_append, List.length_append]
  congr 1
  cases hp : p l[k] <;> simp [hp]
end Go.Proofs.YtohmdohbmmbbkaaDoor
