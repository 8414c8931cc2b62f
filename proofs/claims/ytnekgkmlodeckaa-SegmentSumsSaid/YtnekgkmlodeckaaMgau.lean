/-
  The walks of bands.slots, bands.Check, and the reference's slots and Check.
-/
import Derived.Test.YtnekgkmlodeckaaMgai
import Derived.Test.YtnekgkmlodeckaaMgat
import Derived.Deep.QuietTactic
import Derived.BigQuiet
namespace Go.Proofs.Ytnekgkmlodeckaa
open Go.RowKit

def IntTo (n : Int) (w : World) (e : Ending) (w' : World) : Prop := e = .returned (.int .i64 n) ∧ Below w.heap.size w w'

theorem all_take {α : Type} {p : α → Bool} {l : List α} {k : Nat} (h : k < l.length) (h1 : (l.take k).all p = true) (h2 : p l[k] = true) : (l.take (k + 1)).all p = true := by
  rw [List.take_succ_eq_append_getElem h, List.all_append, h1]; simp [h2]
theorem all_bad {α : Type} {p : α → Bool} {l : List α} {k : Nat} (h : k < l.length) (h2 : p l[k] = false) : ¬ l.all p = true := fun h3 => by
  rw [List.all_eq_true] at h3
  have := h3 _ (List.getElem_mem h)
  rw [h2] at this; cases this
theorem all_end {α : Type} {p : α → Bool} {l : List α} {k : Nat} (h : l.length ≤ k) (h1 : (l.take k).all p = true) : l.all p = true := by rwa [List.take_of_length_le h] at h1

theorem slot_bad {s : Sl} (h : slotOk s = false) : s.1 < 1 ∨ (1 ≤ s.1 ∧ 255 < s.1) ∨ (1 ≤ s.1 ∧ s.1 ≤ 255 ∧ s.2.1 < 0) ∨ (1 ≤ s.1 ∧ s.1 ≤ 255 ∧ 0 ≤ s.2.1 ∧ s.2.2 ≤ s.2.1) ∨ (1 ≤ s.1 ∧ s.1 ≤ 255 ∧ 0 ≤ s.2.1 ∧ s.2.1 < s.2.2 ∧ 1440 < s.2.2) := by
  have := of_decide_eq_false h; omega
theorem slot_good {s : Sl} (h : slotOk s = true) : 1 ≤ s.1 ∧ s.1 ≤ 255 ∧ 0 ≤ s.2.1 ∧ s.2.1 < s.2.2 ∧ s.2.2 ≤ 1440 := of_decide_eq_true h

set_option maxRecDepth 100000 in
set_option maxHeartbeats 3200000 in
theorem slots_calls (v : Value) (l : List Sl) (w : World) (h : SlsAt w v l) :
    Calls Try.prog 65 #[v] w (IntTo (slotsE l) w) := by
  have hh := h
  obtain ⟨av, cap, rfl, hlc, hm, -⟩ := h
  have hm := hm.1
  unfold maxLen at hm
  by_cases h0 : l.length = 0
  · have H := Lib.hid (show slotsE l = 8 from if_pos h0)
    have hz : ((l.length : Int) == 0) = true := beq_iff_eq.2 (by omega)
    clear h0
    go_enter Try.func65, Try.ntmps65
    go_wp2
    go_ret
    exact ⟨ret_int H.out.symm, Below.refl _ _⟩
  · have hz : ((l.length : Int) == 0) = false := beq_eq_false_iff_ne.2 (by omega)
    by_cases h64 : 64 < l.length
    · have H := Lib.hid (show slotsE l = 5 by unfold slotsE; rw [if_neg h0, if_pos h64])
      have h64' : (64 : Int) < (l.length : Int) := by omega
      go_enter Try.func65, Try.ntmps65
      go_wp2
      go_ret
      exact ⟨ret_int H.out.symm, Below.refl _ _⟩
    · have HZ := Lib.hid (show slotsE l = if l.all slotOk = true then 0 else 6 by unfold slotsE; rw [if_neg h0, if_neg h64])
      have h64' : ¬ (64 : Int) < (l.length : Int) := by omega
      clear h0
      go_enter Try.func65, Try.ntmps65
      go_wp2_with fail
      go_loopw [4, 13] (fun _ i wr => ∃ k : Nat, k ≤ l.length ∧ i = .int .i64 k ∧ (l.take k).all slotOk = true ∧ Below w.heap.size w wr) (fun _ i _ => l.length - (intOf i).toNat)
      case atStart => exact ⟨0, Nat.zero_le _, rfl, rfl, Below.refl _ _⟩
      case round =>
        obtain ⟨k, hk, rfl, hn, hb⟩ := hrel
        have Hn := Lib.hid hn
        clear hn
        by_cases hlt : k < l.length
        · obtain ⟨av2, cap2, e2, -, -, hx⟩ := hh.below hb
          cases e2
          obtain ⟨b, o, rfl, hB, hx⟩ := hx (by rintro rfl; cases hlt)
          obtain ⟨c0, c1, c2⟩ := hx k hlt
          have hk0 : (0 : Int) ≤ (k : Int) := Int.natCast_nonneg _
          have hk1 : (k : Int) < (l.length : Int) := by omega
          have HF := Lib.hid (fun h2 => all_take (p := slotOk) hlt Hn.out h2)
          have HT := Lib.hid (fun h2 => all_bad (p := slotOk) hlt h2)
          clear hx
          generalize l[k] = y at *
          obtain ⟨d, f, t⟩ := y
          dsimp only at c0 c1 c2
          obtain ⟨X, hX⟩ : ∃ X, X = wr.alloc (Obj.cells #[Value.int .i64 d, .int .i64 f, .int .i64 t] 96) := ⟨_, rfl⟩
          have hbX : Below w.heap.size w X := by rw [hX]; exact hb.alloc hb.size _
          have rX : X.heap[wr.heap.size]? = some (Obj.cells #[Value.int .i64 d, .int .i64 f, .int .i64 t] 96) := by rw [hX]; exact heap_alloc_new _ _
          have y0 := cell_of_row X _ 0 _ _ _ rX
          have y1 := cell_of_row X _ 1 _ _ _ rX
          have y2 := cell_of_row X _ 2 _ _ _ rX
          have HX := Lib.hid hX
          have HbX := Lib.hid hbX
          clear hX rX hbX
          cases hE : slotOk (d, f, t) with
          | true =>
            obtain ⟨g1, g2, g3, g4, g5⟩ := slot_good hE
            dsimp only at g1 g2 g3 g4 g5
            have HF2 := Lib.hid (HF.out hE)
            clear hE HF HT
            go_upto_region 8 with (fail)
            rw [← HX.out]
            go_wp2
            exact ⟨⟨k + 1, by omega, by go_num, HF2.out, HbX.out⟩, by simp [intOf]; omega⟩
          | false =>
            have hc := slot_bad hE
            dsimp only at hc
            have HE := Lib.hid (show slotsE l = 6 by rw [HZ.out, if_neg (HT.out hE)])
            clear hE HF HT
            rcases hc with g1 | ⟨g1, g2⟩ | ⟨g1, g2, g3⟩ | ⟨g1, g2, g3, g4⟩ | ⟨g1, g2, g3, g4, g5⟩
            all_goals
              go_upto_region 8 with (fail)
              rw [← HX.out]
              go_wp2
              go_ret
              exact ⟨ret_int HE.out.symm, HbX.out⟩
        · have HE := Lib.hid (show slotsE l = 0 by rw [HZ.out, if_pos (all_end (by omega) Hn.out)])
          go_wp2
          go_ret
          exact ⟨ret_int HE.out.symm, hb⟩

set_option maxRecDepth 100000 in
set_option maxHeartbeats 3200000 in
theorem rslots_calls (v : Value) (l : List Sl) (w : World) (h : SlsAt w v l) :
    Calls Try.prog 92 #[v, .bool false] w (IntTo (slotsE l) w) := by
  have hh := h
  obtain ⟨av, cap, rfl, hlc, hm, -⟩ := h
  have hm := hm.1
  unfold maxLen at hm
  by_cases h0 : l.length = 0
  · have H := Lib.hid (show slotsE l = 8 from if_pos h0)
    have hz : ((l.length : Int) == 0) = true := beq_iff_eq.2 (by omega)
    clear h0
    go_enter Try.func92, Try.ntmps92
    go_wp2
    go_ret
    exact ⟨ret_int H.out.symm, Below.refl _ _⟩
  · have hz : ((l.length : Int) == 0) = false := beq_eq_false_iff_ne.2 (by omega)
    by_cases h64 : 64 < l.length
    · have H := Lib.hid (show slotsE l = 5 by unfold slotsE; rw [if_neg h0, if_pos h64])
      have h64' : (64 : Int) < (l.length : Int) := by omega
      go_enter Try.func92, Try.ntmps92
      go_wp2
      go_ret
      exact ⟨ret_int H.out.symm, Below.refl _ _⟩
    · have HZ := Lib.hid (show slotsE l = if l.all slotOk = true then 0 else 6 by unfold slotsE; rw [if_neg h0, if_neg h64])
      have h64' : ¬ (64 : Int) < (l.length : Int) := by omega
      clear h0
      go_enter Try.func92, Try.ntmps92
      go_wp2_with fail
      go_loopw [5, 6] (fun i _ wr => ∃ k : Nat, k ≤ l.length ∧ i = .int .i64 k ∧ (l.take k).all slotOk = true ∧ Below w.heap.size w wr) (fun i _ _ => l.length - (intOf i).toNat)
      case atStart => exact ⟨0, Nat.zero_le _, rfl, rfl, Below.refl _ _⟩
      case round =>
        obtain ⟨k, hk, rfl, hn, hb⟩ := hrel
        have Hn := Lib.hid hn
        clear hn
        by_cases hlt : k < l.length
        · obtain ⟨av2, cap2, e2, -, -, hx⟩ := hh.below hb
          cases e2
          obtain ⟨b, o, rfl, hB, hx⟩ := hx (by rintro rfl; cases hlt)
          obtain ⟨c0, c1, c2⟩ := hx k hlt
          have hk0 : (0 : Int) ≤ (k : Int) := Int.natCast_nonneg _
          have hk1 : (k : Int) < (l.length : Int) := by omega
          have HF := Lib.hid (fun h2 => all_take (p := slotOk) hlt Hn.out h2)
          have HT := Lib.hid (fun h2 => all_bad (p := slotOk) hlt h2)
          clear hx
          generalize l[k] = y at *
          obtain ⟨d, f, t⟩ := y
          dsimp only at c0 c1 c2
          obtain ⟨X, hX⟩ : ∃ X, X = wr.alloc (Obj.cells #[Value.int .i64 d, .int .i64 f, .int .i64 t] 96) := ⟨_, rfl⟩
          have hbX : Below w.heap.size w X := by rw [hX]; exact hb.alloc hb.size _
          have rX : X.heap[wr.heap.size]? = some (Obj.cells #[Value.int .i64 d, .int .i64 f, .int .i64 t] 96) := by rw [hX]; exact heap_alloc_new _ _
          have y0 := cell_of_row X _ 0 _ _ _ rX
          have y1 := cell_of_row X _ 1 _ _ _ rX
          have y2 := cell_of_row X _ 2 _ _ _ rX
          have HX := Lib.hid hX
          have HbX := Lib.hid hbX
          clear hX rX hbX
          cases hE : slotOk (d, f, t) with
          | true =>
            obtain ⟨g1, g2, g3, g4, g5⟩ := slot_good hE
            dsimp only at g1 g2 g3 g4 g5
            have HF2 := Lib.hid (HF.out hE)
            clear hE HF HT
            go_upto_region 13 with (fail)
            rw [← HX.out]
            go_wp2
            exact ⟨⟨k + 1, by omega, by go_num, HF2.out, HbX.out⟩, by simp [intOf]; omega⟩
          | false =>
            have hc := slot_bad hE
            dsimp only at hc
            have HE := Lib.hid (show slotsE l = 6 by rw [HZ.out, if_neg (HT.out hE)])
            clear hE HF HT
            rcases hc with g1 | ⟨g1, g2⟩ | ⟨g1, g2, g3⟩ | ⟨g1, g2, g3, g4⟩ | ⟨g1, g2, g3, g4, g5⟩
            all_goals
              go_upto_region 13 with (fail)
              rw [← HX.out]
              go_wp2
              go_ret
              exact ⟨ret_int HE.out.symm, HbX.out⟩
        · have HE := Lib.hid (show slotsE l = 0 by rw [HZ.out, if_pos (all_end (by omega) Hn.out)])
          go_wp2
          go_ret
          exact ⟨ret_int HE.out.symm, hb⟩

theorem rslots_last (v : Value) (l : List Sl) (w : World) (h : SlsAt w v l) :
    Calls Try.prog 92 #[v, .bool true] w (IntTo (if 0 < l.length then 8 else 0) w) := by
  obtain ⟨av, cap, rfl, hlc, hm, -⟩ := h
  by_cases h0 : 0 < l.length
  · rw [if_pos h0]
    go_enter Try.func92, Try.ntmps92
    go_wp2
    go_ret
    exact ⟨rfl, Below.refl _ _⟩
  · rw [if_neg h0]
    go_enter Try.func92, Try.ntmps92
    go_wp2
    go_ret
    exact ⟨rfl, Below.refl _ _⟩

set_option maxRecDepth 100000 in
set_option maxHeartbeats 1600000 in
theorem indexB_calls (v : Value) (l : List Bn) (w : World) (h : BnsAt w v l) (p : Bn → Bool) (g : Nat) (lb : Array Value) (eg : ∀ args w, (callFunc g args).run Try.prog w = .ok (.enter g args) w)
    (hp : ∀ (W : World) (x : Bn) (sv : Value), Below w.heap.size w W → x ∈ l → SlsAt W sv x.2 → x.1.size ≤ maxLen → Calls Try.prog g (#[.agg #[.string x.1, sv]] ++ lb) W fun e w' => e = .returned (.bool (p x)) ∧ Below W.heap.size W w') :
    Calls Try.prog 99 #[v, .func (.func g) #[] lb] w (IdxTo p l w) := by
  have hh := h
  obtain ⟨av, cap, rfl, hlc, hm, -⟩ := h
  have hm := hm.1
  unfold maxLen at hm
  have Hp := Lib.hid hp
  clear hp
  go_enter Try.func99, Try.ntmps99
  go_wp2_with fail
  go_loopw [5, 8] (fun _ i wr => ∃ k : Nat, k ≤ l.length ∧ i = .int .i64 k ∧ (l.take k).any p = false ∧ Below w.heap.size w wr) (fun _ i _ => l.length - (intOf i).toNat)
  case atStart => exact ⟨0, Nat.zero_le _, rfl, rfl, Below.refl _ _⟩
  case round =>
    obtain ⟨k, hk, rfl, hn, hb⟩ := hrel
    have Hn := Lib.hid hn
    clear hn
    by_cases hlt : k < l.length
    · obtain ⟨av2, cap2, e2, -, -, hx⟩ := hh.below hb
      cases e2
      obtain ⟨b, o, rfl, hB, hx⟩ := hx (by rintro rfl; cases hlt)
      obtain ⟨⟨c0, s0⟩, sv, c1, hs⟩ := hx k hlt
      have hk0 : (0 : Int) ≤ (k : Int) := Int.natCast_nonneg _
      have hk1 : (k : Int) < (l.length : Int) := by omega
      have HF := Lib.hid (fun h2 => any_take_false (p := p) hlt Hn.out h2)
      have HT := Lib.hid (fun h2 => any_hit (p := p) hlt h2)
      have hcall := Hp.out wr l[k] sv hb (List.getElem_mem hlt) hs s0
      have Hs := Lib.hid hs
      clear hx hs
      generalize l[k] = y at *
      cases hE : p y with
      | true =>
        rw [hE] at hcall
        have Hcall := Lib.hid hcall
        clear hcall
        have Hb := Lib.hid hb
        go_wp2_with fail
        refine Hcall.out.mono ?_
        rintro e w' ⟨rfl, hb'⟩
        go_wp2
        go_ret
        exact ⟨k, rfl, by rw [HT.out hE]; exact decide_eq_true hk0, Hb.out.trans (hb'.mono Hb.out.size)⟩
      | false =>
        rw [hE] at hcall
        have Hcall := Lib.hid hcall
        clear hcall
        have Hb := Lib.hid hb
        go_wp2_with fail
        refine Hcall.out.mono ?_
        rintro e w' ⟨rfl, hb'⟩
        go_wp2
        exact ⟨⟨k + 1, by omega, by go_num, HF.out hE, Hb.out.trans (hb'.mono Hb.out.size)⟩, by simp [intOf]; omega⟩
    · have HE := Lib.hid (any_end (by omega) Hn.out)
      go_wp2
      go_ret
      exact ⟨-1, rfl, by rw [HE.out]; rfl, hb⟩

set_option maxHeartbeats 400000 in
theorem containsB_calls (v : Value) (l : List Bn) (w : World) (h : BnsAt w v l) (p : Bn → Bool) (g : Nat) (lb : Array Value) (eg : ∀ args w, (callFunc g args).run Try.prog w = .ok (.enter g args) w)
    (hp : ∀ (W : World) (x : Bn) (sv : Value), Below w.heap.size w W → x ∈ l → SlsAt W sv x.2 → x.1.size ≤ maxLen → Calls Try.prog g (#[.agg #[.string x.1, sv]] ++ lb) W fun e w' => e = .returned (.bool (p x)) ∧ Below W.heap.size W w') :
    Calls Try.prog 63 #[v, .func (.func g) #[] lb] w (BoolTo (l.any p) w) := by
  have Hc := Lib.hid (indexB_calls v l w h p g lb eg hp)
  clear hp
  obtain ⟨av, cap, rfl, -, -, -⟩ := h
  go_enter Try.func63, Try.ntmps63
  go_wp2_with fail
  refine Hc.out.mono ?_
  rintro e w1 ⟨i, rfl, hi, hb⟩
  have Hi := Lib.hid hi
  clear hi
  by_cases h0 : 0 ≤ i
  · go_wp2
    go_ret
    exact ⟨ret_bool (by rw [← Hi.out]; try simp [h0]), hb⟩
  · go_wp2
    go_ret
    exact ⟨ret_bool (by rw [← Hi.out]; try simp [h0]), hb⟩

end Go.Proofs.Ytnekgkmlodeckaa
