/-
  Bands, slots and pieces in memory.
  The walks of slices.Index and Contains at numbers, calendar.Weekday, bands.bit and the reference's bit.
-/
import Derived.Test.YtnekgkmlodeckaaMgab
import Derived.Test.YtnekgkmlodeckaaMgah
namespace Go.Proofs.Ytnekgkmlodeckaa
open Go.RowKit

/-- A slot in three cells. -/
def SlR (w : World) (b o : Nat) (s : Sl) : Prop := w.cell? ⟨b, o, none⟩ = some (.int .i64 s.1) ∧ w.cell? ⟨b, o + 1, none⟩ = some (.int .i64 s.2.1) ∧ w.cell? ⟨b, o + 2, none⟩ = some (.int .i64 s.2.2)
theorem SlR.stays : Stays SlR := fun w w' b _ _ hb hB ⟨h0, h1, h2⟩ =>
  have c : ∀ j, w'.cell? ⟨b, j, none⟩ = w.cell? ⟨b, j, none⟩ := fun j => hb.cell (p := ⟨b, j, none⟩) hB
  ⟨(c _).trans h0, (c _).trans h1, (c _).trans h2⟩
def SlsAt (w : World) (v : Value) (l : List Sl) : Prop := SliceAt 3 SlR w v l
theorem SlsAt.below {w w' : World} {v : Value} {l : List Sl} (h : SlsAt w v l) (hb : Below w.heap.size w w') : SlsAt w' v l := SliceAt.below SlR.stays h hb

/-- A band in two cells. -/
def BnR (w : World) (b o : Nat) (x : Bn) : Prop := StrR w b o x.1 ∧ ∃ v, w.cell? ⟨b, o + 1, none⟩ = some v ∧ SlsAt w v x.2
theorem BnR.stays : Stays BnR := fun _ _ b _ _ hb hB ⟨h0, v, h1, hv⟩ =>
  ⟨StrR.stays _ _ _ _ _ hb hB h0, v, (hb.cell (p := ⟨b, _, none⟩) hB).trans h1, hv.below hb⟩
def BnsAt (w : World) (v : Value) (l : List Bn) : Prop := SliceAt 2 BnR w v l
theorem BnsAt.below {w w' : World} {v : Value} {l : List Bn} (h : BnsAt w v l) (hb : Below w.heap.size w w') : BnsAt w' v l := SliceAt.below BnR.stays h hb

/-- A piece in three cells. -/
def PcR (w : World) (b o : Nat) (x : Pc) : Prop := w.cell? ⟨b, o, none⟩ = some (.string x.1) ∧ w.cell? ⟨b, o + 1, none⟩ = some (.int .i64 x.2.1) ∧ w.cell? ⟨b, o + 2, none⟩ = some (.int .i64 x.2.2)
theorem PcR.stays : Stays PcR := fun w w' b _ _ hb hB ⟨h0, h1, h2⟩ =>
  have c : ∀ j, w'.cell? ⟨b, j, none⟩ = w.cell? ⟨b, j, none⟩ := fun j => hb.cell (p := ⟨b, j, none⟩) hB
  ⟨(c _).trans h0, (c _).trans h1, (c _).trans h2⟩
def PcsAt (w : World) (v : Value) (l : List Pc) : Prop := SliceAt 3 PcR w v l
theorem PcsAt.below {w w' : World} {v : Value} {l : List Pc} (h : PcsAt w v l) (hb : Below w.heap.size w w') : PcsAt w' v l := SliceAt.below PcR.stays h hb
def pcCells (p : Pc) : List Value := [.string p.1, .int .i64 p.2.1, .int .i64 p.2.2]
theorem PcsAt.own {w : World} {base : Nat} {e : TypeId} {v : Value} {l : List Pc} (h : w.ownsRow base e 3 v l.length (l.flatMap pcCells)) : PcsAt w v l :=
  SliceAt.own pcCells (fun _ => rfl) h fun g o i hi hc => ⟨hc 0 (by decide), hc 1 (by decide), hc 2 (by decide)⟩

theorem any_take_false {α : Type} {p : α → Bool} {l : List α} {k : Nat} (h : k < l.length) (h1 : (l.take k).any p = false) (h2 : p l[k] = false) : (l.take (k + 1)).any p = false := by
  rw [List.take_succ_eq_append_getElem h, List.any_append, h1]; simp [h2]
theorem any_hit {α : Type} {p : α → Bool} {l : List α} {k : Nat} (h : k < l.length) (h2 : p l[k] = true) : l.any p = true := List.any_eq_true.2 ⟨l[k], List.getElem_mem h, h2⟩
theorem any_end {α : Type} {p : α → Bool} {l : List α} {k : Nat} (h : l.length ≤ k) (h1 : (l.take k).any p = false) : l.any p = false := by rwa [List.take_of_length_le h] at h1
end Go.Proofs.Ytnekgkmlodeckaa

namespace Go.Proofs.Ytnekgkmlodeckaa
open Go.RowKit

/-- A place in a list, or -1. -/
def IdxTo {α : Type} (p : α → Bool) (l : List α) (w : World) (e : Ending) (w' : World) : Prop :=
  ∃ i : Int, e = .returned (.int .i64 i) ∧ decide (0 ≤ i) = l.any p ∧ Below w.heap.size w w'

set_option maxRecDepth 100000 in
set_option maxHeartbeats 1600000 in
theorem indexI_calls (v : Value) (l : List Int) (x : Int) (w : World) (h : IcsAt w v l) :
    Calls Try.prog 127 #[v, .int .i64 x] w (IdxTo (fun y => x == y) l w) := by
  have hh := h
  obtain ⟨av, cap, rfl, hlc, hm, -⟩ := h
  have hm := hm.1
  unfold maxLen at hm
  go_enter Try.func127, Try.ntmps127
  go_wp2_with fail
  go_loopw [5, 8] (fun _ i wr => ∃ k : Nat, k ≤ l.length ∧ i = .int .i64 k ∧ (l.take k).any (fun y => x == y) = false ∧ Below w.heap.size w wr) (fun _ i _ => l.length - (intOf i).toNat)
  case atStart => exact ⟨0, Nat.zero_le _, rfl, rfl, Below.refl _ _⟩
  case round =>
    obtain ⟨k, hk, rfl, hn, hb⟩ := hrel
    have Hn := Lib.hid hn
    clear hn
    by_cases hlt : k < l.length
    · obtain ⟨av2, cap2, e2, -, -, hx⟩ := hh.below hb
      cases e2
      obtain ⟨b, o, rfl, hB, hx⟩ := hx (by rintro rfl; cases hlt)
      have c0 := hx k hlt
      unfold IntC at c0
      rw [Nat.mul_one] at c0
      have hk0 : (0 : Int) ≤ (k : Int) := Int.natCast_nonneg _
      have hk1 : (k : Int) < (l.length : Int) := by omega
      have HF := Lib.hid (fun h2 => any_take_false (p := fun y => x == y) hlt Hn.out h2)
      have HT := Lib.hid (fun h2 => any_hit (p := fun y => x == y) hlt h2)
      clear hx
      generalize l[k] = y at *
      cases hE : (x == y) with
      | true =>
        go_wp2
        go_ret
        exact ⟨k, rfl, by rw [HT.out hE]; exact decide_eq_true hk0, hb⟩
      | false =>
        go_wp2
        exact ⟨⟨k + 1, by omega, by go_num, HF.out hE, hb⟩, by simp [intOf]; omega⟩
    · have HE := Lib.hid (any_end (by omega) Hn.out)
      go_wp2
      go_ret
      exact ⟨-1, rfl, by rw [HE.out]; rfl, hb⟩

set_option maxHeartbeats 400000 in
theorem containsI_calls (v : Value) (l : List Int) (x : Int) (w : World) (h : IcsAt w v l) :
    Calls Try.prog 96 #[v, .int .i64 x] w fun e w' => e = .returned (.bool (l.any fun y => x == y)) ∧ Below w.heap.size w w' := by
  have Hc := Lib.hid (indexI_calls v l x w h)
  obtain ⟨av, cap, rfl, -, -, -⟩ := h
  go_enter Try.func96, Try.ntmps96
  go_wp2_with fail
  refine Hc.out.mono ?_
  rintro e w1 ⟨i, rfl, hi, hb⟩
  have Hi := Lib.hid hi
  clear hi
  by_cases h0 : 0 ≤ i
  · go_wp2
    go_ret
    exact ⟨ret_bool (by rw [← Hi.out]; try simp [h0]), hb⟩
  · go_wp2
    go_ret
    exact ⟨ret_bool (by rw [← Hi.out]; try simp [h0]), hb⟩

set_option maxHeartbeats 400000 in
theorem weekday_calls (d : Int) (w : World) (h0 : 0 ≤ d) (h1 : d < 146097) :
    Calls Try.prog 97 #[.int .i64 d] w fun e w' => e = .returned (.int .i64 ((d + 5) % 7)) ∧ w = w' := by
  have hr : IntKind.i64.wrap (d + 5) = d + 5 := IntWalk.i64_in _ (by omega)
  have ht : (d + 5).tmod 7 = (d + 5) % 7 := Int.tmod_eq_emod_of_nonneg (by omega)
  have hw : IntKind.i64.wrap ((d + 5) % 7) = (d + 5) % 7 := IntWalk.i64_in _ (by omega)
  go_enter Try.func97, Try.ntmps97
  go_wp2
  go_ret
  exact ⟨rfl, rfl⟩

set_option maxHeartbeats 400000 in
theorem rweekday_calls (d : Int) (w : World) (h0 : 0 ≤ d) (h1 : d < 146097) :
    Calls Try.prog 131 #[.int .i64 d] w fun e w' => e = .returned (.int .i64 ((d + 5) % 7)) ∧ w = w' := by
  have hr : IntKind.i64.wrap (d + 5) = d + 5 := IntWalk.i64_in _ (by omega)
  have ht : (d + 5).tmod 7 = (d + 5) % 7 := Int.tmod_eq_emod_of_nonneg (by omega)
  have hw : IntKind.i64.wrap ((d + 5) % 7) = (d + 5) % 7 := IntWalk.i64_in _ (by omega)
  go_enter Try.func131, Try.ntmps131
  go_wp2
  go_ret
  exact ⟨rfl, rfl⟩

theorem any_comm (l : List Int) (x : Int) : (l.any fun y => x == y) = l.any fun y => y == x := any_congr fun y _ => by
  rw [Bool.eq_iff_iff, beq_iff_eq, beq_iff_eq]; exact eq_comm

set_option maxRecDepth 100000 in
set_option maxHeartbeats 1600000 in
theorem bit_calls (v : Value) (hol : List Int) (d : Int) (w : World) (h : IcsAt w v hol) (h0 : 0 ≤ d) (h1 : d < 146097) :
    Calls Try.prog 59 #[v, .int .i64 d] w fun e w' => e = .returned (.int .i64 (2 ^ bitQ hol d)) ∧ Below w.heap.size w w' := by
  have Hc := Lib.hid (containsI_calls v hol d w h)
  rw [any_comm] at Hc
  have Hw := Lib.hid (fun w1 => weekday_calls d w1 h0 h1)
  obtain ⟨av, cap, rfl, -, -, -⟩ := h
  have hq : bitQ hol d = if (hol.any fun y => y == d) = true then 7 else ((d + 5) % 7).toNat := rfl
  cases ha : (hol.any fun y => y == d) with
  | true =>
    rw [ha] at Hc hq
    have HQ := Lib.hid (show (2 : Int) ^ bitQ hol d = 128 by rw [hq]; rfl)
    clear ha hq
    go_enter Try.func59, Try.ntmps59
    go_wp2_with fail
    refine Hc.out.mono ?_
    rintro e w1 ⟨rfl, hb⟩
    go_wp2
    go_ret
    exact ⟨ret_int HQ.out.symm, hb⟩
  | false =>
    rw [ha] at Hc hq
    rw [if_neg (by decide)] at hq
    have HQ := Lib.hid hq
    clear ha hq
    have hr : (d + 5) % 7 = 0 ∨ (d + 5) % 7 = 1 ∨ (d + 5) % 7 = 2 ∨ (d + 5) % 7 = 3 ∨ (d + 5) % 7 = 4 ∨ (d + 5) % 7 = 5 ∨ (d + 5) % 7 = 6 := by omega
    rcases hr with hr | hr | hr | hr | hr | hr | hr
    all_goals
      rw [hr] at Hw HQ
      clear hr
      go_enter Try.func59, Try.ntmps59
      go_wp2_with fail
      refine Hc.out.mono ?_
      rintro e w1 ⟨rfl, hb⟩
      go_wp2_with fail
      refine (Hw.out w1).mono ?_
      rintro e w2 ⟨rfl, rfl⟩
      go_wp2
      go_ret
      exact ⟨ret_int (by rw [HQ.out]; rfl), hb⟩

set_option maxRecDepth 100000 in
set_option maxHeartbeats 1600000 in
theorem rbit_calls (v : Value) (hol : List Int) (d : Int) (w : World) (h : IcsAt w v hol) (h0 : 0 ≤ d) (h1 : d < 146097) :
    Calls Try.prog 104 #[v, .int .i64 d] w fun e w' => e = .returned (.int .i64 (bitQ hol d)) ∧ Below w.heap.size w w' := by
  have Hw := Lib.hid (fun w1 => rweekday_calls d w1 h0 h1)
  have hh := h
  obtain ⟨av, cap, rfl, hlc, hm, -⟩ := h
  have hm := hm.1
  unfold maxLen at hm
  have Hq := Lib.hid (show bitQ hol d = if (hol.any fun y => y == d) = true then 7 else ((d + 5) % 7).toNat from rfl)
  go_enter Try.func104, Try.ntmps104
  go_wp2_with fail
  go_loopw [5] (fun i wr => ∃ k : Nat, k ≤ hol.length ∧ i = .int .i64 k ∧ (hol.take k).any (fun y => y == d) = false ∧ Below w.heap.size w wr) (fun i _ => hol.length - (intOf i).toNat)
  case atStart => exact ⟨0, Nat.zero_le _, rfl, rfl, Below.refl _ _⟩
  case round =>
    obtain ⟨k, hk, rfl, hn, hb⟩ := hrel
    have Hn := Lib.hid hn
    clear hn
    by_cases hlt : k < hol.length
    · obtain ⟨av2, cap2, e2, -, -, hx⟩ := hh.below hb
      cases e2
      obtain ⟨b, o, rfl, hB, hx⟩ := hx (by rintro rfl; cases hlt)
      have c0 := hx k hlt
      unfold IntC at c0
      rw [Nat.mul_one] at c0
      have hk0 : (0 : Int) ≤ (k : Int) := Int.natCast_nonneg _
      have hk1 : (k : Int) < (hol.length : Int) := by omega
      have HF := Lib.hid (fun h2 => any_take_false (p := fun y => y == d) hlt Hn.out h2)
      have HT := Lib.hid (fun h2 => any_hit (p := fun y => y == d) hlt h2)
      clear hx
      generalize hol[k] = y at *
      cases hE : (y == d) with
      | true =>
        have HQ := Lib.hid (show bitQ hol d = 7 by rw [Hq.out, if_pos (HT.out hE)])
        go_wp2
        go_ret
        exact ⟨ret_int (by rw [HQ.out]; rfl), hb⟩
      | false =>
        go_wp2
        exact ⟨⟨k + 1, by omega, by go_num, HF.out hE, hb⟩, by simp [intOf]; omega⟩
    · have HE := any_end (by omega) Hn.out
      have HQ := Lib.hid (show ((bitQ hol d : Nat) : Int) = (d + 5) % 7 by rw [Hq.out, HE, if_neg (by decide)]; omega)
      clear HE
      go_wp2_with fail
      refine (Hw.out wr).mono ?_
      rintro e w2 ⟨rfl, rfl⟩
      go_wp2
      go_ret
      exact ⟨ret_int HQ.out.symm, hb⟩
end Go.Proofs.Ytnekgkmlodeckaa
