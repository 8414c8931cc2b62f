/-
  The plain law of charges: each is at most the cap of an agreement that it stands for, and they add up to the net.
-/
import Derived.Test.YtohmdohbmmbbkaaDoorMgbp
namespace Go.Proofs.YtohmdohbmmbbkaaDoor
open Go.RowKit

/-- The charges' sum. -/
def netL (n : Int) (cs : List Chg) : Int := cs.foldl (fun n c => if c.ib = true then n + c.am else n - c.am) n
theorem netL_snoc (n : Int) (cs : List Chg) (k : Nat) (h : k < cs.length) : netL n (cs.take (k + 1)) = if cs[k].ib = true then netL n (cs.take k) + cs[k].am else netL n (cs.take k) - cs[k].am := by
  unfold netL
  rw [List.take_succ_eq_append_getElem h, List.foldl_append]
  rfl
/-- What holds of a charge. -/
def OkChg (l : List Ag) (pa : Int) (c : Chg) : Prop := 0 ≤ c.am ∧ c.am ≤ 1125899906842624 ∧ 1 ≤ c.cn ∧ ∃ a ∈ l, a.pa = pa ∧ a.kd = c.kd ∧ a.ib = c.ib ∧ (a.cap = 0 ∨ c.am ≤ a.cap)
theorem stL_ok {F : Ag → Int × Int} {L : List Ag} {pa : Int} (hF : ∀ a, 0 ≤ (F a).1) : ∀ (l : List Ag) (cs : List Chg) (n : Int), (∀ a ∈ l, a ∈ L ∧ a.pa = pa) → (stL F l cs n).1 = 0 →
    ∃ ds : List Chg, (stL F l cs n).2.1 = cs ++ ds ∧ ds.length ≤ l.length ∧ (stL F l cs n).2.2 = netL n ds ∧ ∀ c ∈ ds, OkChg L pa c
  | [], cs, n, _, _ => ⟨[], by simp [stL], Nat.le_refl _, rfl, fun c hc => (by cases hc)⟩
  | a :: l, cs, n, hL, h => by
    have ih := fun cs n h => stL_ok hF (L := L) (pa := pa) l cs n (fun b hb => hL b (List.mem_cons_of_mem _ hb)) h
    rw [stL] at h ⊢
    by_cases h1 : (F a).1 = 0
    · rw [if_pos h1] at h ⊢
      obtain ⟨ds, e1, e2, e3, e4⟩ := ih _ _ h
      exact ⟨ds, e1, by simp only [List.length_cons]; omega, e3, e4⟩
    · rw [if_neg h1] at h ⊢
      by_cases h2 : (agPriceL a 0 (F a).2).2 = 0
      · rw [if_neg (fun g => g h2)] at h ⊢
        obtain ⟨ds, e1, e2, e3, e4⟩ := ih _ _ h
        refine ⟨⟨a.kd, a.ib, (F a).1, (F a).2, (agPriceL a 0 (F a).2).1⟩ :: ds, by rw [e1]; simp, by simp only [List.length_cons]; omega, by rw [e3]; rfl, fun c hc => ?_⟩
        rcases List.mem_cons.1 hc with rfl | hc
        · obtain ⟨p1, p2⟩ := price_charge h2
          have hc0 := hF a
          refine ⟨p1, p2, by simp only; omega, a, (hL a (List.mem_cons_self ..)).1, (hL a (List.mem_cons_self ..)).2, rfl, rfl, ?_⟩
          by_cases hc : a.cap = 0
          · exact Or.inl hc
          · right
            have ho := ag_ok h2
            have := ho.price (m := 0) (p := (F a).2) (Int.le_refl _) ho.n0 (by omega)
            simp only
            rw [this, Int.zero_add, ho.zero]
            have := ho.capped hc
            simp only
            omega
        · exact e4 c hc
      · rw [if_pos h2] at h
        exact absurd h h2
/-- What the law on caps needs to know of a statement. -/
theorem stmE_caps {l : List Ag} {us : List Us} {pa mf mt : Int} (h : (stmE l us pa mf mt).1 = 0) (hl : l.length ≤ 19) :
    (stmE l us pa mf mt).2.net = netL 0 (stmE l us pa mf mt).2.cs ∧ (stmE l us pa mf mt).2.cs.length ≤ 19 ∧ ∀ c ∈ (stmE l us pa mf mt).2.cs, OkChg l pa c := by
  unfold stmE at h ⊢
  by_cases h1 : agCheckE l ≠ 0
  · rw [if_pos h1] at h; exact absurd h h1
  · rw [if_neg h1] at h ⊢
    by_cases h2 : pa < 1
    · rw [if_pos h2] at h; cases h
    · rw [if_neg h2] at h ⊢
      by_cases h3 : 999 < pa
      · rw [if_pos h3] at h; cases h
      · rw [if_neg h3] at h ⊢
        by_cases h4 : validB mf mt = false
        · rw [if_pos h4] at h; cases h
        · rw [if_neg h4] at h ⊢
          unfold stmL at h ⊢
          by_cases h5 : (stL (cntU pa mf mt us) (oursL pa l) [] 0).1 ≠ 0
          · rw [if_pos h5] at h; exact absurd h h5
          · rw [if_neg h5] at h ⊢
            by_cases h6 : amB (stL (cntU pa mf mt us) (oursL pa l) [] 0).2.2 = true
            · rw [if_pos h6]
              have hm : ∀ a ∈ oursL pa l, a ∈ l ∧ a.pa = pa := fun a ha => by
                have := ((oursL_ok pa l).1.mem_iff).1 ha
                exact ⟨(List.mem_filter.1 this).1, of_decide_eq_true (List.mem_filter.1 this).2⟩
              obtain ⟨ds, e1, e2, e3, e4⟩ := stL_ok (fun a => cntU_nonneg pa mf mt us a) (oursL pa l) [] 0 hm (Classical.not_not.1 h5)
              rw [List.nil_append] at e1
              have hlo : (oursL pa l).length ≤ l.length := by
                rw [(oursL_ok pa l).1.length_eq]
                exact List.length_filter_le _ _
              simp only
              rw [e1, e3]
              exact ⟨rfl, by omega, e4⟩
            · rw [if_neg h6] at h; cases h
theorem stmE_err {l : List Ag} {us : List Us} {pa mf mt : Int} (h : (stmE l us pa mf mt).1 ≠ 0) : (stmE l us pa mf mt).2 = stm0 := by
  unfold stmE stmL at h ⊢
  split
  · rfl
  · rename_i h1
    rw [if_neg h1] at h
    split
    · rfl
    · rename_i h2
      rw [if_neg h2] at h
      split
      · rfl
      · rename_i h3
        rw [if_neg h3] at h
        split
        · rfl
        · rename_i h4
          rw [if_neg h4] at h
          split
          · rfl
          · rename_i h5
            rw [if_neg h5] at h
            split
            · rename_i h6
              rw [if_pos h6] at h
              exact absurd rfl h
            · rfl
/-- Does an agreement stand for a charge? -/
def forB (pa kd : Int) (ib : Bool) (a : Ag) : Bool := (a.pa == pa) && (a.kd == kd) && (a.ib == ib)
def limL (pa kd : Int) (ib : Bool) (l : List Ag) : Int := l.foldl (fun m a => if forB pa kd ib a = true then max m a.cap else m) 0
def freeL (pa kd : Int) (ib : Bool) (l : List Ag) : Bool := l.foldl (fun m a => if forB pa kd ib a = true then m || (a.cap == 0) else m) false
theorem limL_snoc (pa kd : Int) (ib : Bool) (l : List Ag) (k : Nat) (h : k < l.length) : limL pa kd ib (l.take (k + 1)) = if forB pa kd ib l[k] = true then max (limL pa kd ib (l.take k)) l[k].cap else limL pa kd ib (l.take k) := by
  unfold limL
  rw [List.take_succ_eq_append_getElem h, List.foldl_append]
  rfl
theorem freeL_snoc (pa kd : Int) (ib : Bool) (l : List Ag) (k : Nat) (h : k < l.length) : freeL pa kd ib (l.take (k + 1)) = if forB pa kd ib l[k] = true then (freeL pa kd ib (l.take k) || (l[k].cap == 0)) else freeL pa kd ib (l.take k) := by
  unfold freeL
  rw [List.take_succ_eq_append_getElem h, List.foldl_append]
  rfl
theorem lim_mem {pa kd : Int} {ib : Bool} {a : Ag} : ∀ (l : List Ag) (m : Int) (f : Bool), (m ≤ l.foldl (fun m a => if forB pa kd ib a = true then max m a.cap else m) m) ∧ (f = true → l.foldl (fun m a => if forB pa kd ib a = true then m || (a.cap == 0) else m) f = true) ∧
    (a ∈ l → forB pa kd ib a = true → a.cap ≤ l.foldl (fun m a => if forB pa kd ib a = true then max m a.cap else m) m ∧ (a.cap = 0 → l.foldl (fun m a => if forB pa kd ib a = true then m || (a.cap == 0) else m) f = true))
  | [], m, f => ⟨Int.le_refl _, fun h => h, fun h => by cases h⟩
  | b :: l, m, f => by
    simp only [List.foldl_cons]
    obtain ⟨i1, i2, i3⟩ := lim_mem (a := a) l (if forB pa kd ib b = true then max m b.cap else m) (if forB pa kd ib b = true then f || (b.cap == 0) else f)
    refine ⟨Int.le_trans ?_ i1, fun h => i2 ?_, fun hm hf => ?_⟩
    · split <;> omega
    · subst h; split <;> simp
    · rcases List.mem_cons.1 hm with rfl | hm
      · rw [if_pos hf] at i1 i2 ⊢
        rw [if_pos hf]
        exact ⟨by omega, fun h => i2 (by rw [h]; simp)⟩
      · exact i3 hm hf
theorem okChg_caps {l : List Ag} {pa : Int} {c : Chg} (h : OkChg l pa c) : freeL pa c.kd c.ib l = true ∨ c.am ≤ limL pa c.kd c.ib l := by
  obtain ⟨-, -, -, a, ha, h1, h2, h3, h4⟩ := h
  obtain ⟨-, -, i3⟩ := lim_mem (pa := pa) (kd := c.kd) (ib := c.ib) (a := a) l 0 false
  obtain ⟨j1, j2⟩ := i3 ha (by unfold forB; rw [h1, h2, h3]; simp)
  rcases h4 with h4 | h4
  · exact Or.inl (j2 h4)
  · right; unfold limL; omega
theorem netL_bd {l : List Ag} {pa : Int} {cs : List Chg} (h : ∀ c ∈ cs, OkChg l pa c) : ∀ k, k ≤ cs.length → -(1125899906842624 * (k : Int)) ≤ netL 0 (cs.take k) ∧ netL 0 (cs.take k) ≤ 1125899906842624 * (k : Int)
  | 0, _ => by simp [netL]
  | k + 1, hk => by
    have ih := netL_bd h k (by omega)
    have hc := h cs[k] (List.getElem_mem _)
    have h1 := hc.1
    have h2 := hc.2.1
    rw [netL_snoc 0 cs k (by omega)]
    split <;> omega
end Go.Proofs.YtohmdohbmmbbkaaDoor
