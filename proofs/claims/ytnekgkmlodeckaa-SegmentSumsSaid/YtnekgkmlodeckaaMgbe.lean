/-
  Rates: the one that fits; the walk of segment.Rate's closure.
-/
import Derived.Test.YtnekgkmlodeckaaMgaw
import Derived.Test.YtnekgkmlodeckaaMgaf
import Derived.Laws.AppendOwnNone
namespace Go.Proofs.Ytnekgkmlodeckaa
open Go.RowKit

/-- Does a rate fit? -/
def fitsR (kd : Int) (zn bn : ByteArray) (x : Rt) : Bool := decide (x.1 = kd) && ((sameS x.2.1 zn || sameS x.2.1 ByteArray.empty) && (sameS x.2.2.1 bn || sameS x.2.2.1 ByteArray.empty))
/-- The first rate that fits. -/
def rateF (kd : Int) (zn bn : ByteArray) (l : List Rt) : Option Rt := l.find? (fitsR kd zn bn)
def zeroRt : Rt := (0, ByteArray.empty, ByteArray.empty, 0, [])
/-- A rate and a truth. -/
def RateTo (o : Option Rt) (w : World) (e : Ending) (w' : World) : Prop :=
  ∃ sv, e = .returned (.tuple #[.agg #[.int .i64 (o.getD zeroRt).1, .string (o.getD zeroRt).2.1, .string (o.getD zeroRt).2.2.1, .int .i64 (o.getD zeroRt).2.2.2.1, sv], .bool o.isSome]) ∧ StpAt w' sv (o.getD zeroRt).2.2.2.2 ∧ Below w.heap.size w w'
theorem find_take {l : List Rt} {p : Rt → Bool} {k : Nat} (hk : k < l.length) (h : (l.take k).find? p = none) (hp : p l[k] = false) : (l.take (k + 1)).find? p = none := by
  rw [List.take_succ_eq_append_getElem hk, List.find?_append, h]
  simp [hp]
theorem find_hit {l : List Rt} {p : Rt → Bool} {k : Nat} (hk : k < l.length) (h : (l.take k).find? p = none) (hp : p l[k] = true) : l.find? p = some l[k] := by
  have e : l = l.take k ++ (l[k] :: l.drop (k + 1)) := by rw [← List.drop_eq_getElem_cons hk, List.take_append_drop]
  have h2 : l.find? p = (l.take k ++ (l[k] :: l.drop (k + 1))).find? p := congrArg (List.find? p) e
  rw [h2, List.find?_append, h, Option.none_or, List.find?_cons_of_pos hp]
theorem find_end {l : List Rt} {p : Rt → Bool} {k : Nat} (hk : l.length ≤ k) (h : (l.take k).find? p = none) : l.find? p = none := by
  rwa [List.take_of_length_le hk] at h
theorem isEmpty_of {a b : ByteArray} (h : (a.toList == b.toList) = false) (e : a = ByteArray.empty) : b.toList.isEmpty = false := by
  subst e
  rw [Lib.toList_data ByteArray.empty] at h
  cases hb : b.toList with
  | nil => rw [hb] at h; exact absurd h (by decide)
  | cons x r => rfl
theorem empty_facts {a : ByteArray} (h : ¬ a = ByteArray.empty) : (decide (a = ByteArray.empty)) = false ∧ (a.toList == ([] : List UInt8)) = false ∧ a.toList.isEmpty = false := by
  have h1 : a.toList ≠ [] := fun e => h (by
    refine (sameS_iff _ _).1 ?_
    unfold sameS
    rw [Lib.toList_data ByteArray.empty, e]
    rfl)
  refine ⟨decide_eq_false h, ?_, ?_⟩
  · cases h2 : a.toList with
    | nil => exact absurd h2 h1
    | cons x r => rfl
  · cases h2 : a.toList with
    | nil => exact absurd h2 h1
    | cons x r => rfl

set_option maxRecDepth 100000 in
set_option maxHeartbeats 6400000 in
theorem fits_calls (x : Rt) (sv : Value) (kd : Int) (zn bn : ByteArray) (B1 B2 B3 : Nat) (W : World) (h1 : B1 < W.heap.size) (h2 : B2 < W.heap.size) (h3 : B3 < W.heap.size) (c1 : W.cell? ⟨B1, 0, none⟩ = some (.int .i64 kd)) (c2 : W.cell? ⟨B2, 0, none⟩ = some (.string zn)) (c3 : W.cell? ⟨B3, 0, none⟩ = some (.string bn)) (hsv : ∃ a n c, sv = .slice a n c) :
    Calls Try.prog 51 #[.agg #[.int .i64 x.1, .string x.2.1, .string x.2.2.1, .int .i64 x.2.2.2.1, sv], .pointer (some ⟨B1, 0, none⟩), .pointer (some ⟨B2, 0, none⟩), .pointer (some ⟨B3, 0, none⟩)] W fun e w' => e = .returned (.bool (fitsR kd zn bn x)) ∧ Below W.heap.size W w' := by
  obtain ⟨xk, xz, xb, xs, xl⟩ := x
  obtain ⟨sa, sn, sc, rfl⟩ := hsv
  dsimp only
  have HB := Lib.hid (fun o => show Below W.heap.size W (W.alloc o) from (Below.refl _ _).alloc (Nat.le_refl _) o)
  have HP := Lib.hid (show fitsR kd zn bn (xk, xz, xb, xs, xl) = (decide (xk = kd) && ((sameS xz zn || sameS xz ByteArray.empty) && (sameS xb bn || sameS xb ByteArray.empty))) from rfl)
  have q1 : ¬ B1 = W.heap.size := by omega
  have q2 : ¬ B2 = W.heap.size := by omega
  have q3 : ¬ B3 = W.heap.size := by omega
  generalize fitsR kd zn bn (xk, xz, xb, xs, xl) = P at *
  by_cases hk : xk = kd
  · have hk2 : (xk == kd) = true := beq_iff_eq.2 hk
    cases hz1 : (xz.toList == zn.toList) with
    | true =>
      have hz1' : sameS xz zn = true := hz1
      cases hb1 : (xb.toList == bn.toList) with
      | true =>
        have hb1' : sameS xb bn = true := hb1
        obtain rfl : P = true := HP.out.trans (by simp [hk, hz1', hb1'])
        clear HP
        go_enter Try.func51, Try.ntmps51
        go_wp2
        go_ret
        exact ⟨rfl, HB.out _⟩
      | false =>
        have hb1' : sameS xb bn = false := hb1
        by_cases hb2 : xb = ByteArray.empty
        · have hb3 : sameS xb ByteArray.empty = true := (sameS_iff _ _).2 hb2
          obtain rfl : P = true := HP.out.trans (by simp [hk, hz1', hb1', hb3])
          have hb7 := isEmpty_of hb1 hb2
          clear HP hb3
          subst hb2
          go_enter Try.func51, Try.ntmps51
          go_wp2
          go_ret
          exact ⟨rfl, HB.out _⟩
        · have hb3 : sameS xb ByteArray.empty = false := by
            cases h : sameS xb ByteArray.empty with
            | false => rfl
            | true => exact absurd ((sameS_iff _ _).1 h) hb2
          obtain ⟨hb4, hb5, hb6⟩ := empty_facts hb2
          obtain rfl : P = false := HP.out.trans (by simp [hk, hz1', hb1', hb3])
          clear HP
          go_enter Try.func51, Try.ntmps51
          go_wp2
          go_ret
          exact ⟨rfl, HB.out _⟩
    | false =>
      have hz1' : sameS xz zn = false := hz1
      by_cases hz2 : xz = ByteArray.empty
      · have hz3 : sameS xz ByteArray.empty = true := (sameS_iff _ _).2 hz2
        have hP2 : P = (sameS xb bn || sameS xb ByteArray.empty) := by rw [HP.out, hz1', hz3, decide_eq_true hk]; simp
        have HQ := Lib.hid hP2
        have hz7 := isEmpty_of hz1 hz2
        clear hz3 hz1' hP2
        subst hz2
        cases hb1 : (xb.toList == bn.toList) with
        | true =>
          have hb1' : sameS xb bn = true := hb1
          obtain rfl : P = true := HQ.out.trans (by simp [hb1'])
          clear HP HQ
          go_enter Try.func51, Try.ntmps51
          go_wp2
          go_ret
          exact ⟨rfl, HB.out _⟩
        | false =>
          have hb1' : sameS xb bn = false := hb1
          by_cases hb2 : xb = ByteArray.empty
          · have hb3 : sameS xb ByteArray.empty = true := (sameS_iff _ _).2 hb2
            obtain rfl : P = true := HQ.out.trans (by simp [hb1', hb3])
            have hb7 := isEmpty_of hb1 hb2
            clear HP HQ hb3
            subst hb2
            go_enter Try.func51, Try.ntmps51
            go_wp2
            go_ret
            exact ⟨rfl, HB.out _⟩
          · have hb3 : sameS xb ByteArray.empty = false := by
              cases h : sameS xb ByteArray.empty with
              | false => rfl
              | true => exact absurd ((sameS_iff _ _).1 h) hb2
            obtain ⟨hb4, hb5, hb6⟩ := empty_facts hb2
            obtain rfl : P = false := HQ.out.trans (by simp [hb1', hb3])
            clear HP HQ
            go_enter Try.func51, Try.ntmps51
            go_wp2
            go_ret
            exact ⟨rfl, HB.out _⟩
      · have hz3 : sameS xz ByteArray.empty = false := by
          cases h : sameS xz ByteArray.empty with
          | false => rfl
          | true => exact absurd ((sameS_iff _ _).1 h) hz2
        obtain ⟨hz4, hz5, hz6⟩ := empty_facts hz2
        obtain rfl : P = false := HP.out.trans (by simp [hz1', hz3])
        clear HP
        go_enter Try.func51, Try.ntmps51
        go_wp2
        go_ret
        exact ⟨rfl, HB.out _⟩
  · have hk2 : (xk == kd) = false := beq_eq_false_iff_ne.2 hk
    obtain rfl : P = false := HP.out.trans (by simp [hk])
    clear HP
    go_enter Try.func51, Try.ntmps51
    go_wp2
    go_ret
    exact ⟨rfl, HB.out _⟩

def stCells3 (s : St) : List Value := [.int .i64 s.u, .int .i64 s.q, .int .i64 s.p]
theorem Try.stepInfo : (Try.prog.info? 94).map (fun i => (i.zero, i.size, i.bytes)) = some (some (.agg #[.int .i64 0, .int .i64 0, .int .i64 0]), 3, 24) := by kernel_rfl

theorem append_stps {w : World} {ops : Array Oper} {rest : List Oper} {o : Oper} {a : Act} {Q : Exit → Act → World → Prop} (hgd : o.guard = none) (s x : Operand)
    (ho : o.op = .call { callee := .builtin .append, args := #[s, x], argTypes := #[31, 31] })
    (base : Nat) (hbase : base ≤ w.heap.size) (v vx : Value) (L X : List St) (hs : a.eval s = v) (hx : a.eval x = vx) (hown : w.ownsRow base 94 3 v L.length (L.flatMap stCells3)) (hX : StpAt w vx X) (hlen : L.length + X.length ≤ 5864062014634)
    (h : ∀ R : List St, RowKit.Hid (R = L ++ X) → ∀ v' w', w'.ownsRow base 94 3 v' R.length (R.flatMap stCells3) → Below base w w' → wpList Try.prog ops Q rest (a.put o.dst v') w') : wpList Try.prog ops Q (o :: rest) a w := by
  obtain ⟨i0, hi, hz0, hz1, hz2⟩ := info_parts Try.stepInfo
  obtain ⟨av, cap, rfl, hlc, hm, hX⟩ := hX
  cases av with
  | none =>
    obtain rfl := hm.2 rfl
    obtain rfl : X = [] := by
      cases X with
      | nil => rfl
      | cons p r => obtain ⟨b, o, e, -⟩ := hX (by simp); cases e
    refine wpList_append_own_none hgd s x _ ho base 94 i0 3 Try.underlying31 hi v L.length _ hs hown hx (h L (Lib.hid (List.append_nil _).symm) v w hown (Below.refl _ _))
  | some ad =>
    refine wpList_append_own _ hgd s x _ ho base 94 i0 _ 3 24 Try.underlying31 hi hz0 hz1 hz2 rfl (by decide) v L.length _ hs hown ad X.length cap (X.flatMap stCells3) hx (flat_length stCells3 3 (fun _ => rfl) X) ?_ ?_ (by unfold maxLen; omega) (by omega) hbase ?_
    · intro j u hj
      have hjl : j < X.length * 3 := by
        rw [← flat_length stCells3 3 (fun _ => rfl) X]
        exact (List.getElem?_eq_some_iff.1 hj).1
      have hi2 : j / 3 < X.length := by omega
      obtain ⟨b, o, e, -, hx2⟩ := hX (by rintro rfl; cases hi2)
      cases e
      obtain ⟨c0, c1, c2⟩ := hx2 (j / 3) hi2
      have hg := flat_get stCells3 3 (fun _ => rfl) X (j / 3) (j % 3) hi2 (by omega)
      rw [show j / 3 * 3 + j % 3 = j by omega, hj] at hg
      rw [show (⟨b, o, none⟩ : Addr).add j = ⟨b, o + j, none⟩ by unfold Addr.add; split <;> simp_all]
      rcases (show j % 3 = 0 ∨ j % 3 = 1 ∨ j % 3 = 2 by omega) with hm2 | hm2 | hm2
      · rw [hm2] at hg
        rw [show o + j = o + j / 3 * 3 by omega, c0, hg]; rfl
      · rw [hm2] at hg
        rw [show o + j = o + j / 3 * 3 + 1 by omega, c1, hg]; rfl
      · rw [hm2] at hg
        rw [show o + j = o + j / 3 * 3 + 2 by omega, c2, hg]; rfl
    · intro u hu
      obtain ⟨p, -, hp⟩ := List.mem_flatMap.1 hu
      simp [stCells3] at hp
      rcases hp with rfl | rfl | rfl <;> rfl
    · intro v' w' h1 h2 _
      refine h _ (Lib.hid rfl) v' w' ?_ ((Below.refl base w).grown h2 hbase (fun g hg => (ownsRow_block hown g hg).1))
      rw [List.length_append, List.flatMap_append]
      exact h1
theorem stpAt_own {w : World} {base : Nat} {e : TypeId} {v : Value} {L : List St} (h : w.ownsRow base e 3 v L.length (L.flatMap stCells3)) : StpAt w v L := by
  obtain ⟨-, h2⟩ := id h
  rcases h2 with ⟨rfl, h0⟩ | ⟨g, cap, cur, rfl, hB, hh, h1, h2, h3, h4⟩
  · obtain rfl : L = [] := List.length_eq_zero_iff.1 h0
    exact SliceAt.nil w
  · refine ⟨_, cap, rfl, h1, ⟨h2, fun h => by cases h⟩, fun _ => ⟨g, 0, rfl, (Array.getElem?_eq_some_iff.1 hh).1, fun i hi => ?_⟩⟩
    have q0 := h.cellAt (i * 3) (by omega)
    have q1 := h.cellAt (i * 3 + 1) (by omega)
    have q2 := h.cellAt (i * 3 + 2) (by omega)
    have f0 := flat_get stCells3 3 (fun _ => rfl) L i 0 hi (by omega)
    have f1 := flat_get stCells3 3 (fun _ => rfl) L i 1 hi (by omega)
    have f2 := flat_get stCells3 3 (fun _ => rfl) L i 2 hi (by omega)
    rw [Nat.add_zero] at f0
    rw [Nat.zero_add]
    exact ⟨q0.trans f0, q1.trans f1, q2.trans f2⟩
theorem stp_set {w : World} {v : Value} {L : List St} {a : Addr} {x : Value} (h : StpAt w v L) (hb : ∀ g, v.ownBlock = some g → g ≠ a.block) : StpAt (w.setCell a x) v L := by
  obtain ⟨av, cap, rfl, hl, hm, hc⟩ := h
  refine ⟨av, cap, rfl, hl, hm, fun hne => ?_⟩
  obtain ⟨b, o, rfl, hB, hx⟩ := hc hne
  refine ⟨b, o, rfl, by simpa [World.setCell] using hB, fun i hi => ?_⟩
  have h2 : (w.setCell a x).heap[b]? = w.heap[b]? := Below.heap_setCell _ _ _ _ (hb b rfl)
  obtain ⟨h3, h4, h5⟩ := hx i hi
  exact ⟨(World.cell?_of_block (a := ⟨b, _, none⟩) h2).trans h3, (World.cell?_of_block (a := ⟨b, _, none⟩) h2).trans h4, (World.cell?_of_block (a := ⟨b, _, none⟩) h2).trans h5⟩
end Go.Proofs.Ytnekgkmlodeckaa
