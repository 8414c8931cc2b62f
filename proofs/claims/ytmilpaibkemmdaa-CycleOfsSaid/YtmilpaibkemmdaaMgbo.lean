/-
  The walk of the reference's dues.
-/
import Derived.Test.YtmilpaibkemmdaaMgbl
namespace Go.Proofs.Ytmilpaibkemmdaa
open Go.RowKit

theorem du_one (a : Du) : ∀ u ∈ duCells a, u.oneCell' = true := fun u hu => by
  unfold duCells at hu
  simp only [List.mem_cons, List.not_mem_nil, or_false] at hu
  rcases hu with rfl | rfl | rfl <;> rfl
theorem Try.dueInfo : (Try.prog.info? 47).map (fun i => (i.zero, i.size, i.bytes)) = some (some (.agg #[.int .i64 0, .int .i64 0, .int .i64 0]), 3, 24) := by kernel_rfl
theorem append_dus {w : World} {ops : Array Oper} {rest : List Oper} {o : Oper} {a : Act} {Q : Exit → Act → World → Prop} (hgd : o.guard = none) (s x : Operand)
    (ho : o.op = .call { callee := .builtin .append, args := #[s, x], argTypes := #[33, 33] })
    (base : Nat) (hbase : base ≤ w.heap.size) (v vx : Value) (L X : List Du) (hs : a.eval s = v) (hx : a.eval x = vx) (hown : w.ownsRow base 47 3 v L.length (L.flatMap duCells)) (hX : RecAt duCells 3 w vx X) (hlen : L.length + X.length ≤ 1000000)
    (h : ∀ R : List Du, RowKit.Hid (R = L ++ X) → ∀ v' w', w'.ownsRow base 47 3 v' R.length (R.flatMap duCells) → Below base w w' → wpList Try.prog ops Q rest (a.put o.dst v') w') : wpList Try.prog ops Q (o :: rest) a w :=
  append_rec (c := duCells) (sz := 3) (fun _ => rfl) du_one 47 33 _ 24 Try.underlying33 Try.dueInfo rfl (by decide) hgd s x ho base hbase v vx L X hs hx hown hX (by unfold maxLen; omega) (by omega) h
def duVal (d : Du) : Value := .agg #[.int .i64 d.1, .int .i64 d.2.1, .int .i64 d.2.2]
/-- The dues of an account out of the first cycles of a list. -/
def midL (n a b : Int) (C : List (Int × Int)) (k : Nat) : List Du := ((C.take k).filter (inD a b)).map fun c => (n, c)
theorem midL_step (n a b : Int) (C : List (Int × Int)) (k : Nat) (h : k < C.length) : midL n a b C (k + 1) = if inD a b C[k] = true then midL n a b C k ++ [(n, C[k])] else midL n a b C k := by
  unfold midL
  rw [filter_take _ _ _ h]
  split
  · rw [List.map_append, List.map_singleton]
  · rfl
theorem midL_le (n a b : Int) (C : List (Int × Int)) (k : Nat) : (midL n a b C k).length ≤ (midL n a b C C.length).length := by
  unfold midL
  rw [List.length_map, List.length_map, List.take_length]
  exact ((List.take_sublist k C).filter _).length_le
theorem dues_bd {l : List Ev} {a b : Int} {m : Nat} (h : (l.flatMap (perE l a b)).length ≤ m) (i : Nat) (hi : i < l.length) (X : List Du) (hX : X.length ≤ (perE l a b l[i]).length) : (insAll (insAll [] ((l.take i).flatMap (perE l a b))) X).length ≤ m := by
  rw [insAll_len, insAll_len]
  have e : l = l.take i ++ (l[i] :: l.drop (i + 1)) := by rw [← List.drop_eq_getElem_cons hi, List.take_append_drop]
  have e2 : (l.flatMap (perE l a b)).length = ((l.take i).flatMap (perE l a b)).length + ((perE l a b l[i]).length + ((l.drop (i + 1)).flatMap (perE l a b)).length) := by
    have h2 : (l.flatMap (perE l a b)).length = ((l.take i ++ (l[i] :: l.drop (i + 1))).flatMap (perE l a b)).length := congrArg (fun z : List Ev => (z.flatMap (perE l a b)).length) e
    rw [h2, List.flatMap_append, List.length_append, List.flatMap_cons, List.length_append]
  simp only [List.length_nil]
  omega
theorem dues_step (l : List Ev) (a b : Int) (i : Nat) (hi : i < l.length) : insAll [] ((l.take (i + 1)).flatMap (perE l a b)) = insAll (insAll [] ((l.take i).flatMap (perE l a b))) (perE l a b l[i]) := by
  rw [List.take_succ_eq_append_getElem hi, List.flatMap_append, insAll_append, List.flatMap_singleton]
theorem addr_add0 (g j : Nat) : (⟨g, 0, none⟩ : Addr).add j = ⟨g, j, none⟩ := by unfold Addr.add; split <;> simp_all
/-- What the middle loop hands on. -/
def MidRel (w w2 : World) (n a b : Int) (C : List (Int × Int)) (N : List Du) (q0 : Nat) (kv : Int) (Z : List Du) : Prop := ∀ (vo : Value) (wx : World), wx.ownsRow w.heap.size 47 3 vo Z.length (Z.flatMap duCells) → Below w2.heap.size w2 wx →
  ∃ z : Nat, z + q0 = C.length ∧ Value.int .i64 kv = .int .i64 z ∧ wx.ownsRow w.heap.size 47 3 vo (insAll N (midL n a b C z)).length ((insAll N (midL n a b C z)).flatMap duCells) ∧ Below w2.heap.size w2 wx
def DuesTo (w : World) (D : List Du) (e : Ending) (w' : World) : Prop := ∃ v, e = .returned v ∧ RecAt duCells 3 w' v D ∧ Below w.heap.size w w'

set_option maxRecDepth 100000 in
set_option maxHeartbeats 3200000 in
theorem rbefD_calls (x y : Du) (w : World) : Calls Try.prog 36 #[duVal x, duVal y] w fun e w' => e = .returned (.bool (decide (befD x y))) ∧ Below w.heap.size w w' := by
  have HB := Lib.hid (show ∀ o p, Below w.heap.size w ((w.alloc o).alloc p) from fun o p => ((Below.refl _ _).alloc (Nat.le_refl _) o).alloc (by simp) p)
  unfold duVal
  obtain ⟨xa, xf, xt⟩ := x
  obtain ⟨ya, yf, yt⟩ := y
  dsimp only
  by_cases h1 : xt < yt
  · rw [show decide (befD (xa, xf, xt) (ya, yf, yt)) = true from decide_eq_true (Or.inl h1)]
    go_enter Try.func36, Try.ntmps36
    go_wp2
    go_ret
    exact ⟨rfl, HB.out _ _⟩
  · by_cases h2 : xt = yt
    · have h2b : (xt == yt) = true := beq_iff_eq.2 h2
      by_cases h3 : xa < ya
      · rw [show decide (befD (xa, xf, xt) (ya, yf, yt)) = true from decide_eq_true (Or.inr ⟨h2, h3⟩)]
        clear h2
        go_enter Try.func36, Try.ntmps36
        go_wp2
        go_ret
        exact ⟨rfl, HB.out _ _⟩
      · rw [show decide (befD (xa, xf, xt) (ya, yf, yt)) = false from decide_eq_false (fun h => h.elim h1 (fun h => h3 h.2))]
        clear h2
        go_enter Try.func36, Try.ntmps36
        go_wp2
        go_ret
        exact ⟨rfl, HB.out _ _⟩
    · have h2b : (xt == yt) = false := beq_eq_false_iff_ne.2 h2
      rw [show decide (befD (xa, xf, xt) (ya, yf, yt)) = false from decide_eq_false (fun h => h.elim h1 (fun h => h2 h.1))]
      clear h2
      go_enter Try.func36, Try.ntmps36
      go_wp2
      go_ret
      exact ⟨rfl, HB.out _ _⟩

def duPhi (v0 : Value) (n : Int) (vc : Value) (W : World) (i k eb eo cb co : Nat) (c0 c1 : Int) : Nat → Value → World → Prop
  | 0, v, _ => v = v0
  | 1, v, _ => v = .int .i64 i
  | 2, v, _ => v = .pointer (some ⟨eb, eo + i * 7, none⟩)
  | 3, v, _ => v = .pointer (some ⟨eb, eo + i * 7 + 2, none⟩)
  | 4, v, _ => v = .int .i64 n
  | 5, v, _ => v = vc
  | 6, v, _ => v = .int .i64 k
  | 7, v, _ => v = .pointer (some ⟨cb, co + k * 2, none⟩)
  | 8, v, _ => v = .agg #[.int .i64 c0, .int .i64 c1]
  | 9, v, _ => v = .agg #[.int .i64 n, .int .i64 c0, .int .i64 c1]
  | 10, v, w' => ∃ g cs, v = .pointer (some ⟨g, 0, none⟩) ∧ W.heap.size ≤ g ∧ w'.heap[g]? = some (Obj.cells cs 47) ∧ cs.size = 3
  | _, _, _ => True
theorem duPhi_stays {v0 : Value} {n : Int} {vc : Value} {W : World} {i k eb eo cb co : Nat} {c0 c1 : Int} {w1 w2 : World} (hb : ∀ (g : Nat) (cs : Array Value), w1.heap[g]? = some (Obj.cells cs 47) → cs.size = 3 → ∃ cs' : Array Value, w2.heap[g]? = some (Obj.cells cs' 47) ∧ cs'.size = 3) : ∀ j y, duPhi v0 n vc W i k eb eo cb co c0 c1 j y w1 → duPhi v0 n vc W i k eb eo cb co c0 c1 j y w2
  | 0, _, h => h
  | 1, _, h => h
  | 2, _, h => h
  | 3, _, h => h
  | 4, _, h => h
  | 5, _, h => h
  | 6, _, h => h
  | 7, _, h => h
  | 8, _, h => h
  | 9, _, h => h
  | 10, _, ⟨g, cs, h1, h2, h3, h4⟩ => by
    obtain ⟨cs', h5, h6⟩ := hb g cs h3 h4
    exact ⟨g, cs', h1, h2, h5, h6⟩
  | _ + 11, _, _ => trivial

set_option maxRecDepth 100000 in
set_option maxHeartbeats 12800000 in
theorem rdue_calls (v : Value) (l : List Ev) (a b : Int) (w : World) (h : EvsAt w v l) (hok : CycOk l) (hlen : (l.flatMap (perE l a b)).length ≤ 2000) :
    Calls Try.prog 15 #[v, .int .i64 a, .int .i64 b] w (DuesTo w (insAll [] (l.flatMap (perE l a b)))) := by
  have hh := h
  obtain ⟨av, cap, rfl, hlc, hcm⟩ := rec_shape h.1
  unfold maxLen at hcm
  have HE := Lib.hid h.1
  have HL := Lib.hid (show ∀ Y, Below w.heap.size w Y → ∀ i (hi : i < l.length), (l[i]).kd = 1 → Calls Try.prog 19 #[.slice av l.length cap, .int .i64 (l[i]).ac, .agg #[.int .i64 (max a 0), .int .i64 (min b 12622780800)]] Y (PersTo Y (lifeL (l[i]).vl (l[i]).tm (closeT l (l[i]).ac) (max a 0) (min b 12622780800))) from fun Y hY i hi hk => by
    have ho := openE_mem hok (List.getElem_mem hi) hk
    have h := rlist_calls (.slice av l.length cap) l (l[i]).ac (max a 0) (min b 12622780800) (moOf (l[i]).vl (max a 0)) (moOf (l[i]).vl (min b 12622780800 - 1)) Y (hh.below hY) hok (fun o e hv => by
      rw [ho] at e
      cases e
      obtain ⟨w0, w1, w2⟩ := (validB_iff _ _).1 hv
      exact ⟨moOf_is w0 (by omega), moOf_is (by omega) (by omega)⟩)
    rwa [listV_life ho] at h)
  have HP := Lib.hid (show ∀ i (hi : i < l.length), (l[i]).kd = 1 → perE l a b l[i] = midL (l[i]).ac a b (lifeL (l[i]).vl (l[i]).tm (closeT l (l[i]).ac) (max a 0) (min b 12622780800)) (lifeL (l[i]).vl (l[i]).tm (closeT l (l[i]).ac) (max a 0) (min b 12622780800)).length from fun i hi hk => by
    unfold perE midL
    rw [if_pos hk, List.take_length])
  have HP0 := Lib.hid (show ∀ i (hi : i < l.length), (l[i]).kd ≠ 1 → perE l a b l[i] = [] from fun i hi hk => by
    unfold perE
    rw [if_neg hk])
  have HS := Lib.hid (dues_step l a b)
  have HBd := Lib.hid (fun i hi X hX => dues_bd hlen i hi X hX)
  have HLen := Lib.hid (show ∀ i ≤ l.length, (insAll [] ((l.take i).flatMap (perE l a b))).length ≤ 2000 from fun i hi => by
    rw [insAll_len]
    have e : l.flatMap (perE l a b) = (l.take i).flatMap (perE l a b) ++ (l.drop i).flatMap (perE l a b) := by rw [← List.flatMap_append, List.take_append_drop]
    have e2 := congrArg List.length e
    rw [List.length_append] at e2
    simp only [List.length_nil]
    omega)
  obtain ⟨pf, hpf⟩ : ∃ pf, pf = fun i : Nat => insAll [] ((l.take i).flatMap (perE l a b)) := ⟨_, rfl⟩
  have HF0 := Lib.hid (show pf 0 = [] by rw [hpf]; rfl)
  have HFn := Lib.hid (show pf l.length = insAll [] (l.flatMap (perE l a b)) by rw [hpf]; dsimp only; rw [List.take_length])
  have HS := Lib.hid (show ∀ i (hi : i < l.length), pf (i + 1) = insAll (pf i) (perE l a b l[i]) from fun i hi => by rw [hpf]; exact HS.out i hi)
  have HLen := Lib.hid (show ∀ i ≤ l.length, (pf i).length ≤ 2000 from fun i hi => by rw [hpf]; exact HLen.out i hi)
  have HBd := Lib.hid (show ∀ i (hi : i < l.length) (X : List Du), X.length ≤ (perE l a b l[i]).length → (insAll (pf i) X).length ≤ 2000 from fun i hi X hX => by rw [hpf]; exact HBd.out i hi X hX)
  rw [← HFn.out]
  clear hpf h hh hlen hok HFn
  go_enter Try.func15, Try.ntmps15
  go_wp2_with fail
  go_loopg [7, 8] l.length (fun g vo i wx => ∃ k : Nat, k + g = l.length ∧ i = .int .i64 k ∧ wx.ownsRow w.heap.size 47 3 vo (pf k).length ((pf k).flatMap duCells) ∧ Below w.heap.size w wx)
  case atStart => exact ⟨0, by omega, rfl, by rw [HF0.out]; exact World.ownsRow_nil _ _ _ _, Below.refl _ _⟩
  case round =>
    obtain ⟨wo, rfl⟩ : ∃ wo : World, wo = wr := ⟨_, rfl⟩
    obtain ⟨i, hig, rfl, hown, hb⟩ := hrel
    obtain ⟨ao, co, rfl, hco, hcom⟩ := own_shape hown
    have Hown := Lib.hid hown
    have Hb := Lib.hid hb
    cases gk with
    | zero =>
      have hiz : ¬ ((i : Int) < (l.length : Int)) := by omega
      have hEq : i = l.length := by omega
      have HR := Lib.hid (show DuesTo w (pf l.length) (.returned (.slice ao (pf i).length co)) wo from ⟨_, rfl, by rw [← hEq]; exact RecAt.own (fun _ => rfl) Hown.out, hb⟩)
      clear hig hb hown hEq
      go_wp2
      go_ret
      exact HR.out
    | succ g0 =>
      have hil : i < l.length := by omega
      have hi1 : (i : Int) < (l.length : Int) := by omega
      have hi0 : (0 : Int) ≤ (i : Int) := Int.natCast_nonneg _
      have HSi := Lib.hid (HS.out i hil)
      have HBi := Lib.hid (HBd.out i hil)
      have HLi := Lib.hid (HLen.out i (by omega))
      have HPi := Lib.hid (HP.out i hil)
      have HPi0 := Lib.hid (HP0.out i hil)
      have HLc := Lib.hid (HL.out wo hb i hil)
      obtain ⟨a2, n2, e2, -, -, hx⟩ := HE.out
      cases e2
      obtain ⟨eb, eo, rfl, hB, hx⟩ := hx (by intro e; rw [e] at hil; cases hil)
      have HX := Lib.hid (show ∀ Y, Below w.heap.size w Y → Y.cell? ⟨eb, eo + i * 7 + 1, none⟩ = some (.int .i64 (l[i]).kd) ∧ Y.cell? ⟨eb, eo + i * 7 + 2, none⟩ = some (.int .i64 (l[i]).ac) from fun Y hY => ⟨(hY.cell (p := ⟨eb, _, none⟩) hB).trans (hx i hil 1 (by decide)), (hY.cell (p := ⟨eb, _, none⟩) hB).trans (hx i hil 2 (by decide))⟩)
      clear hx
      have HRel := Lib.hid (fun (vo : Value) (wx : World) (h1 : wx.ownsRow w.heap.size 47 3 vo (pf (i + 1)).length ((pf (i + 1)).flatMap duCells)) (h2 : Below w.heap.size w wx) => (⟨i + 1, by omega, by go_num, h1, h2⟩ : ∃ k : Nat, k + g0 = l.length ∧ Value.int .i64 ((i : Int) + 1) = .int .i64 k ∧ wx.ownsRow w.heap.size 47 3 vo (pf k).length ((pf k).flatMap duCells) ∧ Below w.heap.size w wx))
      generalize pf (i + 1) = N1 at *
      generalize pf i = N at *
      generalize l[i] = ev at *
      clear HS HBd HLen HP HP0 HL HF0
      obtain ⟨x1, x2⟩ := HX.out wo hb
      by_cases hk : ev.kd = 1
      · have hkb : (ev.kd != 1) = false := bne_eq_false_iff_eq.2 hk
        have HPm := Lib.hid (HPi.out hk)
        have HLd := Lib.hid (HLc.out hk)
        obtain ⟨C, hC⟩ : ∃ C, C = lifeL ev.vl ev.tm (closeT l ev.ac) (max a 0) (min b 12622780800) := ⟨_, rfl⟩
        rw [← hC] at HPm HLd
        have HSi := Lib.hid (show N1 = insAll N (midL ev.ac a b C C.length) by rw [HSi.out, HPm.out])
        have HBi := Lib.hid (show ∀ k, (insAll N (midL ev.ac a b C k)).length ≤ 2000 from fun k => HBi.out _ (by rw [HPm.out]; exact midL_le _ _ _ _ _))
        have HM := Lib.hid (fun k hk => midL_step ev.ac a b C k hk)
        clear hC hk HPm HPi HPi0 hig hb hown
        generalize ev.ac = n at *
        generalize ev.kd = kd at *
        have HLf := Lib.hid (show ∀ f t : Int, f = max a 0 → t = min b 12622780800 → Calls Try.prog 19 #[.slice (some ⟨eb, eo, none⟩) l.length cap, .int .i64 n, .agg #[.int .i64 f, .int .i64 t]] wo (PersTo wo C) from fun f t h1 h2 => by rw [h1, h2]; exact HLd.out)
        clear HLd HLc
        go_upto_region 6 with (fail)
        go_cut [9] (fun s9 wx => PersAt wx s9 C ∧ Below wo.heap.size wo wx)
        case first =>
          go_wp2_with fail
          all_goals
            refine (HLf.out _ _ (by omega) (by omega)).mono ?_
            rintro e w2 ⟨vc, rfl, hpc, hb2⟩
            go_wp2_with fail
            go_meet
            exact ⟨hpc, hb2⟩
        obtain ⟨w2, rfl⟩ : ∃ w2 : World, w2 = wc := ⟨_, rfl⟩
        obtain ⟨hpc, hb2⟩ := hcut
        obtain ⟨cv, cc, rfl, hcl, hcm2, hcx⟩ := hpc
        have hcm3 := hcm2.1
        unfold maxLen at hcm3
        have HCx := Lib.hid hcx
        have Hb2 := Lib.hid (Hb.out.trans (hb2.mono Hb.out.size))
        have Hown2 := Lib.hid (ownsRow_below Hown.out hb2)
        have hzz := hb2.size
        clear hb2 hcm2 hcx x1 x2
        go_wp2_with fail
        go_loopg [7, 10] C.length (fun g vo x wx => ∃ k : Nat, k + g = C.length ∧ x = .int .i64 k ∧ wx.ownsRow w.heap.size 47 3 vo (insAll N (midL n a b C k)).length ((insAll N (midL n a b C k)).flatMap duCells) ∧ Below w2.heap.size w2 wx)
        case atStart => exact ⟨0, by omega, rfl, by rw [show insAll N (midL n a b C 0) = N from rfl]; exact Hown2.out, Below.refl _ _⟩
        case round =>
          obtain ⟨wm, rfl⟩ : ∃ wm : World, wm = wr := ⟨_, rfl⟩
          obtain ⟨k, hkg, rfl, hownm, hbm⟩ := hrel
          obtain ⟨am, cm, rfl, hcmm, hcmx⟩ := own_shape hownm
          have Hownm := Lib.hid hownm
          have Hbm := Lib.hid hbm
          have HwM := Lib.hid (Hb2.out.trans (hbm.mono Hb2.out.size))
          have hMl := HBi.out k
          cases gk with
          | zero =>
            have hkz : ¬ ((k : Int) < (C.length : Int)) := by omega
            have HR := Lib.hid (HRel.out (.slice am (insAll N (midL n a b C k)).length cm) wm (by
              have e : N1 = insAll N (midL n a b C k) := by rw [HSi.out, show k = C.length by omega]
              rw [e]; exact Hownm.out) HwM.out)
            clear hkg hbm hownm
            go_wp2
            go_roundg g0
            case measure => omega
            case rel =>
              obtain ⟨k', h1, h2, h3⟩ := HR.out
              exact ⟨k', h1, by first | exact h2 | (rw [← h2]; go_num), h3⟩
          | succ q0 =>
            have hkl : k < C.length := by omega
            have hk1 : (k : Int) < (C.length : Int) := by omega
            have hk0 : (0 : Int) ≤ (k : Int) := Int.natCast_nonneg _
            have HMk := Lib.hid (HM.out k hkl)
            obtain ⟨cb, cof, rfl, hBc, hcx⟩ := HCx.out (by intro e; rw [e] at hkl; cases hkl)
            have HCc := Lib.hid (show ∀ Y, Below w2.heap.size w2 Y → Y.cell? ⟨cb, cof + k * 2, none⟩ = some (.int .i64 (C[k]).1) ∧ Y.cell? ⟨cb, cof + k * 2 + 1, none⟩ = some (.int .i64 (C[k]).2) from fun Y hY => ⟨(hY.cell (p := ⟨cb, _, none⟩) hBc).trans (hcx k hkl).1, (hY.cell (p := ⟨cb, _, none⟩) hBc).trans (hcx k hkl).2⟩)
            clear hcx
            generalize C[k] = c at *
            obtain ⟨c0, c1⟩ := c
            dsimp only at HCc
            have HRel2 := Lib.hid (show MidRel w w2 n a b C N q0 ((k : Int) + 1) (insAll N (midL n a b C (k + 1))) from fun vo wx h1 h2 => ⟨k + 1, by omega, by go_num, h1, h2⟩)
            have HRelN := Lib.hid (show inD a b (c0, c1) = false → MidRel w w2 n a b C N q0 ((k : Int) + 1) (insAll N (midL n a b C k)) from fun hn => by
              have h := HRel2.out
              rw [HMk.out, if_neg (show ¬ (inD a b (c0, c1) = true) by rw [hn]; decide)] at h
              exact h)
            have HRelY := Lib.hid (show inD a b (c0, c1) = true → MidRel w w2 n a b C N q0 ((k : Int) + 1) (insD (n, c0, c1) (insAll N (midL n a b C k))) from fun hn => by
              have h := HRel2.out
              rw [HMk.out, if_pos hn, insAll_snoc] at h
              exact h)
            clear HRel2 HMk
            generalize insAll N (midL n a b C k) = M at *
            clear hkg hbm hownm HM HRel
            go_upto_region 10 with (fail)
            refine wp_region_free2 (fun w' => Below wm.heap.size wm w') (duPhi (.slice (some ⟨eb, eo, none⟩) l.length cap) n (.slice (some ⟨cb, cof, none⟩) C.length cc) wm i k eb eo cb cof c0 c1) (by kernel_rfl) (by decide) (by kernel_rfl) (Below.refl _ _).drew ?_
            generalize hfr : (fun v : Nat → Value => _) = fr
            simp only [List.map_cons, List.map_nil, putsL, List.setIfInBounds_toArray, List.set_cons_succ, List.set_cons_zero, Nat.zero_add, Nat.reduceAdd] at hfr
            simp only [FreeOps]
            refine ⟨?_, ?_, ?_, ?_, ?_, ?_, ?_, ?_, ?_, ?_, ?_, ?_⟩
            · intro v w3 hC hd K hK
              rw [← hfr] at hK ⊢
              go_simp
              exact hK _ _ hC (duPhi_stays (keep_below (Below.refl _ _))) rfl
            · intro v w3 hC hd K hK
              rw [← hfr] at hK ⊢
              go_simp
              exact hK _ _ hC (duPhi_stays (keep_below (Below.refl _ _))) rfl
            · intro v w3 hC hd K hK
              obtain ⟨f0, f1, -⟩ := hd
              have e0 : v 0 = _ := f0
              have e1 : v 1 = _ := f1
              rw [← hfr] at hK ⊢
              simp only [e0, e1] at hK ⊢
              go_simp
              exact hK _ _ hC (duPhi_stays (keep_below (Below.refl _ _))) rfl
            · intro v w3 hC hd K hK
              obtain ⟨f2, -⟩ := hd
              have e2 : v 2 = _ := f2
              rw [← hfr] at hK ⊢
              simp only [e2] at hK ⊢
              go_simp
              exact hK _ _ hC (duPhi_stays (keep_below (Below.refl _ _))) rfl
            · intro v w3 hC hd K hK
              obtain ⟨f3, -⟩ := hd
              have e3 : v 3 = _ := f3
              obtain ⟨x1, x2⟩ := HX.out w3 (HwM.out.trans (hC.mono HwM.out.size))
              rw [← hfr] at hK ⊢
              simp only [e3] at hK ⊢
              go_simp
              exact hK _ _ hC (duPhi_stays (keep_below (Below.refl _ _))) rfl
            · intro v w3 hC hd K hK
              rw [← hfr] at hK ⊢
              go_simp
              exact hK _ _ hC (duPhi_stays (keep_below (Below.refl _ _))) rfl
            · intro v w3 hC hd K hK
              rw [← hfr] at hK ⊢
              go_simp
              exact hK _ _ hC (duPhi_stays (keep_below (Below.refl _ _))) rfl
            · intro v w3 hC hd K hK
              obtain ⟨f5, f6, -⟩ := hd
              have e5 : v 5 = _ := f5
              have e6 : v 6 = _ := f6
              rw [← hfr] at hK ⊢
              simp only [e5, e6] at hK ⊢
              go_simp
              exact hK _ _ hC (duPhi_stays (keep_below (Below.refl _ _))) rfl
            · intro v w3 hC hd K hK
              obtain ⟨f7, -⟩ := hd
              have e7 : v 7 = _ := f7
              obtain ⟨p0, p1⟩ := HCc.out w3 (Hbm.out.trans (hC.mono Hbm.out.size))
              rw [← hfr] at hK ⊢
              simp only [e7] at hK ⊢
              go_simp
              exact hK _ _ hC (duPhi_stays (keep_below (Below.refl _ _))) rfl
            · intro v w3 hC hd K hK
              obtain ⟨f4, f8, -⟩ := hd
              have e4 : v 4 = _ := f4
              have e8 : v 8 = _ := f8
              rw [← hfr] at hK ⊢
              simp only [e4, e8] at hK ⊢
              go_simp
              exact hK _ _ hC (duPhi_stays (keep_below (Below.refl _ _))) rfl
            · intro v w3 hC hd K hK
              rw [← hfr] at hK ⊢
              go_simp
              exact hK _ _ (hC.alloc hC.size _) (duPhi_stays (keep_below ((Below.refl _ _).alloc (Nat.le_refl _) _))) ⟨_, _, rfl, hC.size, heap_alloc_new _ _, rfl⟩
            · intro v w3 hC hall
              obtain ⟨g, cs, e10, hg, hrow, hcs⟩ : ∃ g cs, v 10 = .pointer (some ⟨g, 0, none⟩) ∧ wm.heap.size ≤ g ∧ w3.heap[g]? = some (Obj.cells cs 47) ∧ cs.size = 3 := hall.2
              have e9 : v 9 = _ := hall.1.2
              refine wp_store_row _ _ _ rfl g #[.int .i64 n, .int .i64 c0, .int .i64 c1] (by rw [← hfr]; exact e10) (by rw [← hfr]; exact e9) 47 cs hrow (by kernel_rfl) hcs (by simp [Value.oneCell']) ?_
              rw [← hfr]
              simp only [e10]
              have hb4 := below_setRow1 hC hg #[.int .i64 n, .int .i64 c0, .int .i64 c1]
              have r4 : (w3.setRow g #[.int .i64 n, .int .i64 c0, .int .i64 c1]).heap[g]? = some (Obj.cells #[.int .i64 n, .int .i64 c0, .int .i64 c1] 47) := setRow_heap _ _ _ _ _ _ hrow
              generalize w3.setRow g #[.int .i64 n, .int .i64 c0, .int .i64 c1] = w4 at *
              have Hb4 := Lib.hid hb4
              have HR4 := Lib.hid r4
              have Hown4 := Lib.hid (ownsRow_below Hownm.out hb4)
              have hg4 : g < w4.heap.size := (Array.getElem?_eq_some_iff.1 r4).1
              generalize v 0 = y0, v 1 = y1, v 2 = y2, v 3 = y3, v 4 = y4, v 5 = y5, v 6 = y6, v 7 = y7, v 8 = y8, v 9 = y9, v 11 = y11 at *
              clear e10 e9 hall hfr v hC hrow hcs hb4 r4 cs hg
              obtain ⟨p0, p1⟩ := HCc.out w4 (Hbm.out.trans (Hb4.out.mono Hbm.out.size))
              by_cases hin : a < c1 ∧ c1 ≤ b
              · have HY := Lib.hid (HRelY.out (inD_iff.2 hin))
                obtain ⟨hi1a, hi1b⟩ := hin
                have hn1 : ¬ (c1 ≤ a) := by omega
                have hn2 : ¬ (b < c1) := by omega
                clear HRelN HRelY
                go_wp2_with fail
                go_loopg [12] M.length (fun g x wy => x = .int .i64 g ∧ g ≤ M.length ∧ kD (n, c0, c1) M g = kD (n, c0, c1) M M.length ∧ Below w4.heap.size w4 wy)
                case atStart => exact ⟨rfl, Nat.le_refl _, rfl, Below.refl _ _⟩
                case round =>
                  obtain ⟨rfl, hgN, hkO, hby⟩ := hrel
                  have HkO := Lib.hid hkO
                  have Hby := Lib.hid hby
                  have HownY := Lib.hid (ownsRow_below Hown4.out hby)
                  have rY := (hby.block _ hg4).trans HR4.out
                  have hgY : g < wr.heap.size := by have := hby.size; omega
                  have f0 := fun p : BelowOf wr => BelowOf.cell (a := ⟨g, 0, none⟩) hgY (cell_of_row wr _ 0 _ _ _ rY) p
                  have f1 := fun p : BelowOf wr => BelowOf.cell (a := ⟨g, 1, none⟩) hgY (cell_of_row wr _ 1 _ _ _ rY) p
                  have f2 := fun p : BelowOf wr => BelowOf.cell (a := ⟨g, 2, none⟩) hgY (cell_of_row wr _ 2 _ _ _ rY) p
                  have hrr := Below.refl wr.heap.size wr
                  clear hkO rY p0 p1 hgY
                  cases gk with
                  | zero =>
                    have HK := Lib.hid (show kD (n, c0, c1) M M.length = 0 from HkO.out.symm)
                    go_upto_region 13 with (fail)
                    refine wp_region_quiet_below hrr (by kernel_rfl) (by kernel_rfl) ?_
                    repeat (go_big_quiet_step (fail))
                    refine wpQuiet_nil ?_
                    intro wa hw'
                    have hYa : Below wr.heap.size wr wa := by obtain ⟨pq, rfl⟩ := hw'; exact pq.h
                    clear hw' f0 f1 f2 hrr
                    have Hbo := Lib.hid (Hby.out.trans (hYa.mono Hby.out.size))
                    have HownA := Lib.hid (ownsRow_below HownY.out hYa)
                    have Ht := Lib.hid (sliceAt_take (RecAt.own (fun _ => rfl) HownA.out : RecAt duCells 3 _ _ _) 0 (Nat.zero_le _))
                    have Hd := Lib.hid (show RecAt duCells 3 wa (.slice am M.length cm) (M.drop 0) from RecAt.own (fun _ => rfl) HownA.out)
                    have HIns := Lib.hid (show insD (n, c0, c1) M = M.take 0 ++ ((n, c0, c1) :: M.drop 0) by unfold insD; rw [HK.out])
                    obtain ⟨P, hP0⟩ : ∃ P, P = M.take (0) := ⟨_, rfl⟩
                    obtain ⟨D, hD0⟩ : ∃ D, D = M.drop (0) := ⟨_, rfl⟩
                    have hlt1 : P.length ≤ M.length := by rw [hP0, List.length_take]; omega
                    have hld1 : P.length + D.length = M.length := by rw [hP0, hD0, ← List.length_append, List.take_append_drop]
                    rw [← hP0] at Ht
                    rw [← hD0] at Hd
                    rw [← hP0, ← hD0] at HIns
                    have HY := Lib.hid (HY.out)
                    rw [HIns.out] at HY
                    clear hP0 hD0
                    obtain ⟨Y, hY⟩ : ∃ Y, Y = wa.alloc (Obj.cells #[] 47) := ⟨_, rfl⟩
                    have hbY : Below wa.heap.size wa Y := by rw [hY]; exact (Below.refl _ _).alloc (Nat.le_refl _) _
                    have hown0 : Y.ownsRow wa.heap.size 47 3 (.slice (some ⟨wa.heap.size, 0, none⟩) 0 0) 0 [] := by
                      rw [hY]
                      exact own_empty _ _
                    have Hown0 := Lib.hid hown0
                    have HbY := Lib.hid hbY
                    have HYe := Lib.hid hY
                    have HbA := Lib.hid (Hbm.out.trans ((Hb4.out.trans (Hbo.out.mono Hb4.out.size)).mono Hbm.out.size))
                    clear hY hbY hown0 hYa
                    have hbs := HbY.out.size
                    have hba := Hbo.out.size
                    have hbA := HbA.out.size
                    have hbB := Hb2.out.size
                    go_wp2_with (at_builtin; rw [← HYe.out]; refine append_dus rfl _ _ rfl wa.heap.size hbs _ _ [] P rfl rfl Hown0.out ?hX1 ?hl1 ?_)
                    case hX1 => exact RecAt.below Ht.out HbY.out
                    case hl1 => first | omega | (simp; omega)
                    intro P5 hP5 v5 w5 own5 hb5
                    obtain rfl : P = P5 := hP5.out.symm
                    clear hP5
                    have Hb5 := Lib.hid (HbY.out.trans hb5)
                    have Own5 := Lib.hid own5
                    have hbs5 := Hb5.out.size
                    obtain ⟨a5, c5, rfl, hc5, hm5⟩ := own_shape own5
                    clear own5 hb5
                    have r5 := ((Hbo.out.trans (Hb5.out.mono hba)).block _ hg4).trans HR4.out
                    have d0 := cell_of_row w5 _ 0 _ _ _ r5
                    have d1 := cell_of_row w5 _ 1 _ _ _ r5
                    have d2 := cell_of_row w5 _ 2 _ _ _ r5
                    have HX2 := Lib.hid (RecAt.one (c := duCells) (sz := 3) w5 (n, c0, c1) 47 #[.int .i64 n, .int .i64 c0, .int .i64 c1] rfl)
                    clear r5
                    go_wp2_with (at_builtin; refine append_dus rfl _ _ rfl wa.heap.size ?hs2 _ _ P [(n, c0, c1)] rfl rfl (Own5.out.alloc _) HX2.out ?hl2 ?_)
                    case hs2 => simp; omega
                    case hl2 => simp; omega
                    intro R6 hR6 v6 w6 own6 hb6
                    have Hb6 := Lib.hid ((Hb5.out.alloc hbs5 (Obj.cells #[.int .i64 n, .int .i64 c0, .int .i64 c1] 47)).trans hb6)
                    have HR6 := Lib.hid hR6.out
                    have hR6l : R6.length = P.length + 1 := by rw [hR6.out, List.length_append]; rfl
                    have hbs6 := Hb6.out.size
                    obtain ⟨a6, c6, rfl, hc6, hm6⟩ := own_shape own6
                    have Own6 := Lib.hid own6
                    have hR6b : R6.length ≤ M.length + 1 := by omega
                    have hR6d : R6.length + D.length ≤ M.length + 1 := by omega
                    clear own6 hb6 hR6 hR6l d0 d1 d2
                    go_wp2_with (at_builtin; refine append_dus rfl _ _ rfl wa.heap.size ?hs3 _ _ R6 D rfl rfl Own6.out ?hX3 ?hl3 ?_)
                    case hs3 => exact hbs6
                    case hX3 => exact RecAt.below Hd.out Hb6.out
                    case hl3 => omega
                    intro R hR v7 w7 own7 hb7
                    have hR := hR.out
                    have Hb7 := Lib.hid (HbA.out.trans ((Hb6.out.trans hb7).mono HbA.out.size))
                    have Own7 := Lib.hid (own_down own7 (show w.heap.size ≤ wa.heap.size by omega))
                    have HRm := Lib.hid (show P ++ ((n, c0, c1) :: D) = R by rw [hR, HR6.out, List.append_assoc]; rfl)
                    rw [HRm.out] at HY
                    clear own7 hb7 hR
                    go_wp2
                    go_roundg q0
                    case measure => omega
                    case rel =>
                      obtain ⟨z, h1, h2, h3⟩ := HY.out _ _ Own7.out Hb7.out
                      exact ⟨z, h1, by first | exact h2 | (rw [← h2]; go_num), h3⟩
                  | succ n0 =>
                    have hn0 : n0 < M.length := by omega
                    obtain ⟨gm, rfl⟩ : ∃ gm, am = some ⟨gm, 0, none⟩ := by
                      rcases HownY.out.2 with ⟨h1, h2⟩ | ⟨gm, cap', cur, hv, -⟩
                      · omega
                      · simp only [Value.slice.injEq] at hv
                        exact ⟨gm, hv.1⟩
                    have hgW := (ownsRow_block HownY.out gm rfl).2
                    have hzr := fun j (hj : j < 3) => (HownY.out.cellAt (n0 * 3 + j) (by omega)).trans (flat_get duCells 3 (fun _ => rfl) M n0 j hn0 hj)
                    have HkS := Lib.hid (HkO.out.symm.trans (kD_step (n, c0, c1) M n0 hn0))
                    generalize M[n0] = r at *
                    obtain ⟨yn, y0, y1⟩ := r
                    unfold duCells at hzr
                    dsimp only at hzr HkS
                    have e0 := fun p : BelowOf wr => BelowOf.cell (a := ⟨gm, _, none⟩) hgW (hzr 0 (by omega)) p
                    have e1 := fun p : BelowOf wr => BelowOf.cell (a := ⟨gm, _, none⟩) hgW (hzr 1 (by omega)) p
                    have e2 := fun p : BelowOf wr => BelowOf.cell (a := ⟨gm, _, none⟩) hgW (hzr 2 (by omega)) p
                    have e0 : ∀ p : BelowOf wr, p.w.cell? ⟨gm, n0 * 3, none⟩ = some (.int .i64 yn) := e0
                    clear hzr hgW
                    obtain ⟨bf, hbf⟩ : ∃ bf, bf = decide (befD (n, c0, c1) (yn, y0, y1)) := ⟨_, rfl⟩
                    have HBf := Lib.hid (fun w' => rbefD_calls (n, c0, c1) (yn, y0, y1) w')
                    rw [← hbf] at HBf
                    unfold duVal at HBf
                    dsimp only at HBf
                    have Hbf := Lib.hid hbf
                    clear hbf
                    have hsub : IntKind.i64.wrap ((n0 : Int) + 1 - 1) = (n0 : Int) := by rw [show (n0 : Int) + 1 - 1 = n0 by omega]; exact IntWalk.i64_in _ (by omega)
                    have hn0c : (n0 : Int) < (M.length : Int) := by omega
                    have hn00 : (0 : Int) ≤ (n0 : Int) := Int.natCast_nonneg _
                    have hn0p : (0 : Int) < (n0 : Int) + 1 := by omega
                    go_upto_region 13 with (fail)
                    refine wp_region_quiet_below hrr (by kernel_rfl) (by kernel_rfl) ?_
                    repeat (go_big_quiet_step (first | (go_at_call 36; refine calls_below_of (HBf.out _) (fun e w' h => h))))
                    refine wpQuiet_nil ?_
                    intro wa hw'
                    have hYa : Below wr.heap.size wr wa := by obtain ⟨pq, rfl⟩ := hw'; exact pq.h
                    clear hw' e0 e1 e2 f0 f1 f2 hrr
                    have Hbo := Lib.hid (Hby.out.trans (hYa.mono Hby.out.size))
                    cases bf with
                    | true =>
                      have HE2 := Lib.hid (HkS.out.trans (if_pos (of_decide_eq_true Hbf.out.symm)))
                      clear hYa
                      go_wp2
                      go_roundg n0
                      case measure => omega
                      case rel => exact ⟨by first | rfl | simp, by omega, HE2.out.symm, Hbo.out⟩
                    | false =>
                      have HK := Lib.hid (HkS.out.trans (if_neg (of_decide_eq_false Hbf.out.symm)))
                      have HownA := Lib.hid (ownsRow_below HownY.out hYa)
                      have Ht := Lib.hid (sliceAt_take (RecAt.own (fun _ => rfl) HownA.out : RecAt duCells 3 _ _ _) (n0 + 1) hn0)
                      have Hd := Lib.hid (sliceAt_drop (RecAt.own (fun _ => rfl) HownA.out : RecAt duCells 3 _ _ _) (n0 + 1) hn0)
                      have HIns := Lib.hid (show insD (n, c0, c1) M = M.take (n0 + 1) ++ ((n, c0, c1) :: M.drop (n0 + 1)) by unfold insD; rw [HK.out])
                      obtain ⟨P, hP0⟩ : ∃ P, P = M.take (n0 + 1) := ⟨_, rfl⟩
                      obtain ⟨D, hD0⟩ : ∃ D, D = M.drop (n0 + 1) := ⟨_, rfl⟩
                      have hlt1 : P.length ≤ M.length := by rw [hP0, List.length_take]; omega
                      have hld1 : P.length + D.length = M.length := by rw [hP0, hD0, ← List.length_append, List.take_append_drop]
                      rw [← hP0] at Ht
                      rw [← hD0] at Hd
                      rw [← hP0, ← hD0] at HIns
                      have HY := Lib.hid (HY.out)
                      rw [HIns.out] at HY
                      clear hP0 hD0
                      obtain ⟨Y, hY⟩ : ∃ Y, Y = wa.alloc (Obj.cells #[] 47) := ⟨_, rfl⟩
                      have hbY : Below wa.heap.size wa Y := by rw [hY]; exact (Below.refl _ _).alloc (Nat.le_refl _) _
                      have hown0 : Y.ownsRow wa.heap.size 47 3 (.slice (some ⟨wa.heap.size, 0, none⟩) 0 0) 0 [] := by
                        rw [hY]
                        exact own_empty _ _
                      have Hown0 := Lib.hid hown0
                      have HbY := Lib.hid hbY
                      have HYe := Lib.hid hY
                      have HbA := Lib.hid (Hbm.out.trans ((Hb4.out.trans (Hbo.out.mono Hb4.out.size)).mono Hbm.out.size))
                      clear hY hbY hown0 hYa
                      have hbs := HbY.out.size
                      have hba := Hbo.out.size
                      have hbA := HbA.out.size
                      have hbB := Hb2.out.size
                      go_wp2_with (at_builtin; rw [← HYe.out]; refine append_dus rfl _ _ rfl wa.heap.size hbs _ _ [] P rfl rfl Hown0.out ?hX1 ?hl1 ?_)
                      case hX1 => exact RecAt.below Ht.out HbY.out
                      case hl1 => first | omega | (simp; omega)
                      intro P5 hP5 v5 w5 own5 hb5
                      obtain rfl : P = P5 := hP5.out.symm
                      clear hP5
                      have Hb5 := Lib.hid (HbY.out.trans hb5)
                      have Own5 := Lib.hid own5
                      have hbs5 := Hb5.out.size
                      obtain ⟨a5, c5, rfl, hc5, hm5⟩ := own_shape own5
                      clear own5 hb5
                      have r5 := ((Hbo.out.trans (Hb5.out.mono hba)).block _ hg4).trans HR4.out
                      have d0 := cell_of_row w5 _ 0 _ _ _ r5
                      have d1 := cell_of_row w5 _ 1 _ _ _ r5
                      have d2 := cell_of_row w5 _ 2 _ _ _ r5
                      have HX2 := Lib.hid (RecAt.one (c := duCells) (sz := 3) w5 (n, c0, c1) 47 #[.int .i64 n, .int .i64 c0, .int .i64 c1] rfl)
                      clear r5
                      go_wp2_with (at_builtin; refine append_dus rfl _ _ rfl wa.heap.size ?hs2 _ _ P [(n, c0, c1)] rfl rfl (Own5.out.alloc _) HX2.out ?hl2 ?_)
                      case hs2 => simp; omega
                      case hl2 => simp; omega
                      intro R6 hR6 v6 w6 own6 hb6
                      have Hb6 := Lib.hid ((Hb5.out.alloc hbs5 (Obj.cells #[.int .i64 n, .int .i64 c0, .int .i64 c1] 47)).trans hb6)
                      have HR6 := Lib.hid hR6.out
                      have hR6l : R6.length = P.length + 1 := by rw [hR6.out, List.length_append]; rfl
                      have hbs6 := Hb6.out.size
                      obtain ⟨a6, c6, rfl, hc6, hm6⟩ := own_shape own6
                      have Own6 := Lib.hid own6
                      have hR6b : R6.length ≤ M.length + 1 := by omega
                      have hR6d : R6.length + D.length ≤ M.length + 1 := by omega
                      clear own6 hb6 hR6 hR6l d0 d1 d2
                      by_cases hco1 : cm = n0 + 1
                      · have Hd := Lib.hid (show RecAt duCells 3 wa (.slice (some ⟨gm, 0, none⟩) (M.length - (n0 + 1)) 0) D by
                          have h := Hd.out
                          rw [if_pos hco1, hco1, Nat.sub_self] at h
                          exact h)
                        go_wp2_with (at_builtin; refine append_dus rfl _ _ rfl wa.heap.size ?hs3 _ _ R6 D rfl rfl Own6.out ?hX3 ?hl3 ?_)
                        case hs3 => exact hbs6
                        case hX3 => exact RecAt.below Hd.out Hb6.out
                        case hl3 => omega
                        intro R hR v7 w7 own7 hb7
                        have hR := hR.out
                        have Hb7 := Lib.hid (HbA.out.trans ((Hb6.out.trans hb7).mono HbA.out.size))
                        have Own7 := Lib.hid (own_down own7 (show w.heap.size ≤ wa.heap.size by omega))
                        have HRm := Lib.hid (show P ++ ((n, c0, c1) :: D) = R by rw [hR, HR6.out, List.append_assoc]; rfl)
                        rw [HRm.out] at HY
                        clear own7 hb7 hR
                        go_wp2
                        go_roundg q0
                        case measure => omega
                        case rel =>
                          obtain ⟨z, h1, h2, h3⟩ := HY.out _ _ Own7.out Hb7.out
                          exact ⟨z, h1, by first | exact h2 | (rw [← h2]; go_num), h3⟩
                      · have Hd := Lib.hid (show RecAt duCells 3 wa (.slice (some ⟨gm, (n0 + 1) * 3, none⟩) (M.length - (n0 + 1)) (cm - (n0 + 1))) D by
                          have h := Hd.out
                          rw [if_neg hco1, Option.map_some, addr_add0] at h
                          exact h)
                        go_wp2_with (at_builtin; refine append_dus rfl _ _ rfl wa.heap.size ?hs3 _ _ R6 D rfl rfl Own6.out ?hX3 ?hl3 ?_)
                        case hs3 => exact hbs6
                        case hX3 => exact RecAt.below Hd.out Hb6.out
                        case hl3 => omega
                        intro R hR v7 w7 own7 hb7
                        have hR := hR.out
                        have Hb7 := Lib.hid (HbA.out.trans ((Hb6.out.trans hb7).mono HbA.out.size))
                        have Own7 := Lib.hid (own_down own7 (show w.heap.size ≤ wa.heap.size by omega))
                        have HRm := Lib.hid (show P ++ ((n, c0, c1) :: D) = R by rw [hR, HR6.out, List.append_assoc]; rfl)
                        rw [HRm.out] at HY
                        clear own7 hb7 hR
                        go_wp2
                        go_roundg q0
                        case measure => omega
                        case rel =>
                          obtain ⟨z, h1, h2, h3⟩ := HY.out _ _ Own7.out Hb7.out
                          exact ⟨z, h1, by first | exact h2 | (rw [← h2]; go_num), h3⟩
              · have HNo := Lib.hid (HRelN.out (by cases hq : inD a b (c0, c1); rfl; exact absurd (inD_iff.1 hq) hin))
                clear HRelN HRelY
                by_cases hn1 : c1 ≤ a
                · go_wp2
                  go_roundg q0
                  case measure => omega
                  case rel =>
                    obtain ⟨z, h1, h2, h3⟩ := HNo.out _ _ Hown4.out (Hbm.out.trans (Hb4.out.mono Hbm.out.size))
                    exact ⟨z, h1, by first | exact h2 | (rw [← h2]; go_num), h3⟩
                · have hn2 : b < c1 := by omega
                  go_wp2
                  go_roundg q0
                  case measure => omega
                  case rel =>
                    obtain ⟨z, h1, h2, h3⟩ := HNo.out _ _ Hown4.out (Hbm.out.trans (Hb4.out.mono Hbm.out.size))
                    exact ⟨z, h1, by first | exact h2 | (rw [← h2]; go_num), h3⟩

      · have hkb : (ev.kd != 1) = true := bne_iff_ne.2 hk
        have HR := Lib.hid (HRel.out (.slice ao N.length co) wo (by
          have e : N1 = N := by rw [HSi.out, HPi0.out hk]; rfl
          rw [e]; exact Hown.out) hb)
        clear hig hb hown hk
        go_wp2
        go_roundg g0
        case measure => omega
        case rel =>
          obtain ⟨k', h1, h2, h3⟩ := HR.out
          exact ⟨k', h1, by first | exact h2 | (rw [← h2]; go_num), h3⟩
end Go.Proofs.Ytmilpaibkemmdaa
