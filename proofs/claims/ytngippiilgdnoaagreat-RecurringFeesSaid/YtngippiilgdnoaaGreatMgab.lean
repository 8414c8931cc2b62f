/-
  Names: the plain law.
  The walks of product.name and of the reference's Name, and of amount.Valid.
  Bands: the plain law. A list of pieces tells which band each instant of a period has; such a list is one alone.
  The book of events, plainly: accounts, subscriptions, and what an event does to them.
  Products and bundles: the plain law of their first errors.
  Zones: the plain law of their first errors.
  The walk of the reference's Valid of numbers.
-/
import Derived.Test.YtngippiilgdnoaaGreatMgaa
import Derived.Handy
import Derived.Lib.Bytealg
namespace Go.Proofs.YtngippiilgdnoaaGreat
open Go.RowKit

def isLow (c : UInt8) : Bool := decide (97 ≤ (c.toNat : Int) ∧ (c.toNat : Int) ≤ 122)
def isSign (c : UInt8) : Bool := isLow c || decide (48 ≤ (c.toNat : Int) ∧ (c.toNat : Int) ≤ 57) || decide ((c.toNat : Int) = 45)

/-- Is a text a name? -/
def isName (s : ByteArray) : Bool := decide (0 < s.size ∧ s.size ≤ 24) && isLow (s.data.toList.headD 0) && s.data.toList.all isSign

theorem all_take_snoc (s : ByteArray) (k : Nat) (h : k < s.size) : (s.data.toList.take (k + 1)).all isSign = ((s.data.toList.take k).all isSign && isSign s[k]) := by
  rw [List.take_succ_eq_append_getElem (by simpa using h), List.all_append]
  simp only [List.all_cons, List.all_nil, Bool.and_true]
  rfl
theorem all_false (s : ByteArray) (k : Nat) (h : k < s.size) (hs : isSign s[k] = false) : s.data.toList.all isSign = false := by
  rw [List.all_eq_false]
  exact ⟨s[k], by have : s[k] = s.data.toList[k]'(by simpa using h) := rfl; rw [this]; exact List.getElem_mem _, by rw [hs]; decide⟩
theorem headD_get (l : List UInt8) (h : 0 < l.length) : l.headD 0 = l[0] := by
  cases l with
  | nil => cases h
  | cons a r => rfl
theorem head_eq (s : ByteArray) (h : 0 < s.size) : s.data.toList.headD 0 = s[0] := headD_get s.data.toList (by simpa using h)
theorem not_empty (s : ByteArray) (h : 0 < s.size) : s.toList.isEmpty = false := by
  rw [Lib.toList_data]
  cases hl : s.data.toList with
  | nil => exfalso; have : s.data.toList.length = s.size := by simp
           rw [hl] at this; simp at this; omega
  | cons a t => rfl

theorem sign_false {c : UInt8} (h : isSign c = false) : ((c.toNat : Int) < 97 ∨ 122 < (c.toNat : Int)) ∧ ((c.toNat : Int) < 48 ∨ 57 < (c.toNat : Int)) ∧ ((c.toNat : Int) != 45) = true := by
  unfold isSign isLow at h
  simp only [Bool.or_eq_false_iff, decide_eq_false_iff_not] at h
  obtain ⟨⟨h1, h2⟩, h3⟩ := h
  exact ⟨by omega, by omega, by rw [bne_iff_ne]; exact h3⟩
theorem sign_true {c : UInt8} (h : isSign c = true) : (97 ≤ (c.toNat : Int) ∧ (c.toNat : Int) ≤ 122) ∨ (((c.toNat : Int) < 97 ∨ 122 < (c.toNat : Int)) ∧ 48 ≤ (c.toNat : Int) ∧ (c.toNat : Int) ≤ 57) ∨ (((c.toNat : Int) < 97 ∨ 122 < (c.toNat : Int)) ∧ ((c.toNat : Int) < 48 ∨ 57 < (c.toNat : Int)) ∧ ((c.toNat : Int) != 45) = false) := by
  unfold isSign isLow at h
  simp only [Bool.or_eq_true, decide_eq_true_eq] at h
  rw [bne_eq_false_iff_eq]
  omega
theorem low_sign {c : UInt8} (h : isLow c = true) : isSign c = true := by unfold isSign; rw [h]; rfl

end Go.Proofs.YtngippiilgdnoaaGreat

namespace Go.Proofs.YtngippiilgdnoaaGreat
open Go.RowKit

set_option maxHeartbeats 1600000 in
theorem rname_calls (s : ByteArray) (w : World) (hs : s.size ≤ maxLen) : Calls Tryz.prog 119 #[.string s] w fun e w' => e = .returned (.bool (isName s)) ∧ w = w' := by
  unfold maxLen at hs
  by_cases h0 : 0 < s.size
  · have hne := not_empty s h0
    by_cases h24 : s.size ≤ 24
    · have hd := head_eq s h0
      cases hl : isLow s[0] with
      | false =>
        have H := Lib.hid (show isName s = false by unfold isName; rw [hd, hl]; simp)
        have hc : (s[0].toNat : Int) < 97 ∨ (97 ≤ (s[0].toNat : Int) ∧ 122 < (s[0].toNat : Int)) := by
          have := of_decide_eq_false hl; omega
        clear hl hd
        rcases hc with hc | hc
        all_goals
          go_enter Tryz.func119, Tryz.ntmps119
          go_wp2
          go_ret
          exact ⟨ret_bool H.out.symm, rfl⟩
      | true =>
        have H := Lib.hid (show isName s = s.data.toList.all isSign by unfold isName; rw [hd, hl, decide_eq_true ⟨h0, h24⟩]; rfl)
        obtain ⟨l1, l2⟩ := of_decide_eq_true hl
        have H1 := Lib.hid (show (s.data.toList.take 0).all isSign = true by rw [List.take_zero]; rfl)
        clear hl hd
        go_enter Tryz.func119, Tryz.ntmps119
        go_wp2
        go_loop [3] (fun i => ∃ k : Nat, 0 ≤ k ∧ k ≤ s.size ∧ i = .int .i64 k ∧ (s.data.toList.take k).all isSign = true) (fun i => s.size - (intOf i).toNat)
        case atStart => exact ⟨0, Nat.le_refl _, by omega, rfl, H1.out⟩
        case round =>
          obtain ⟨k, hk0, hk, rfl, ha⟩ := hrel
          have Ha := Lib.hid ha
          clear ha
          by_cases hlt : k < s.size
          · have hlt' : (k : Int) < (s.size : Int) := by omega
            cases hg : isSign s[k] with
            | false =>
              have HF := Lib.hid (all_false s k hlt hg)
              obtain ⟨e1, e2, e3⟩ := sign_false hg
              clear hg
              rcases e1 with e1 | e1 <;> rcases e2 with e2 | e2
              all_goals first | (exfalso; omega) | (go_wp2; go_ret; exact ⟨ret_bool (by rw [H.out, HF.out]), rfl⟩)
            | true =>
              have HT := Lib.hid (show (s.data.toList.take (k + 1)).all isSign = true by rw [all_take_snoc s k hlt, Ha.out, hg]; rfl)
              have hs3 := sign_true hg
              clear hg
              rcases hs3 with ⟨f1, f2⟩ | ⟨f1 | f1, f2, f3⟩ | ⟨f1 | f1, f2 | f2, f3⟩
              all_goals first | (exfalso; omega) | (go_wp2; exact ⟨⟨k + 1, by omega, by omega, by go_num, HT.out⟩, by simp [intOf]; omega⟩)
          · go_wp2
            go_ret
            exact ⟨ret_bool (by rw [H.out, ← Ha.out, List.take_of_length_le (by simp; omega)]), rfl⟩
    · have H := Lib.hid (show isName s = false by unfold isName; rw [decide_eq_false (by omega)]; rfl)
      go_enter Tryz.func119, Tryz.ntmps119
      go_wp2
      go_ret
      exact ⟨ret_bool H.out.symm, rfl⟩
  · have H := Lib.hid (show isName s = false by unfold isName; rw [decide_eq_false (by omega)]; rfl)
    have hz : s.size = 0 := by omega
    have hem : s.toList.isEmpty = true := by rw [Lib.toList_data, List.isEmpty_iff]; exact List.length_eq_zero_iff.1 (by simpa using hz)
    go_enter Tryz.func119, Tryz.ntmps119
    go_wp2
    go_ret
    exact ⟨ret_bool H.out.symm, rfl⟩

set_option maxHeartbeats 400000 in
theorem valid_amount (n : Int) (w : World) : Calls Tryz.prog 121 #[.int .i64 n] w fun e w' => e = .returned (.bool (decide (-1125899906842624 ≤ n ∧ n ≤ 1125899906842624))) ∧ w = w' := by
  by_cases h0 : -1125899906842624 ≤ n
  · go_enter Tryz.func121, Tryz.ntmps121
    go_wp2
    go_ret
    exact ⟨ret_bool (by simp [h0]), rfl⟩
  · go_enter Tryz.func121, Tryz.ntmps121
    go_wp2
    go_ret
    exact ⟨ret_bool (by simp; omega), rfl⟩
end Go.Proofs.YtngippiilgdnoaaGreat

namespace Go.Proofs.YtngippiilgdnoaaGreat
open Go.RowKit

/-- A slot: its days, its first minute, the minute behind it. -/
abbrev Sl := Int × Int × Int
/-- A band: its name, its slots. -/
abbrev Bn := ByteArray × List Sl
/-- A piece: its band, its period. -/
abbrev Pc := ByteArray × Int × Int

def sameS (a b : ByteArray) : Bool := a.toList == b.toList

theorem sameS_iff (a b : ByteArray) : sameS a b = true ↔ a = b := by
  unfold sameS
  rw [beq_iff_eq]
  constructor
  · intro h
    rw [Lib.toList_data, Lib.toList_data] at h
    exact ByteArray.ext (Array.ext' h)
  · rintro rfl; rfl

def slotOk (s : Sl) : Bool := decide (1 ≤ s.1 ∧ s.1 ≤ 255 ∧ 0 ≤ s.2.1 ∧ s.2.1 < s.2.2 ∧ s.2.2 ≤ 1440)
/-- The first error of slots. -/
def slotsE (l : List Sl) : Int := if l.length = 0 then 8 else if 64 < l.length then 5 else if l.all slotOk = true then 0 else 6
/-- The first error of a band behind others. -/
def bandE (pre : List Bn) (b : Bn) (last : Bool) : Int :=
  if isName b.1 = false then 8 else if pre.any (fun x => sameS x.1 b.1) = true then 10 else if last = true then (if 0 < b.2.length then 8 else 0) else slotsE b.2
def bandsE : List Bn → List Bn → Int
  | _, [] => 0
  | pre, b :: r => if bandE pre b r.isEmpty ≠ 0 then bandE pre b r.isEmpty else bandsE (pre ++ [b]) r
/-- The first error of a list of bands. -/
def checkB (l : List Bn) : Int := if l.length = 0 then 8 else if 64 < l.length then 5 else bandsE [] l

theorem bandsE_step (l : List Bn) (k : Nat) (h : k < l.length) : bandsE (l.take k) (l.drop k) =
    if bandE (l.take k) l[k] (decide (k + 1 = l.length)) ≠ 0 then bandE (l.take k) l[k] (decide (k + 1 = l.length)) else bandsE (l.take (k + 1)) (l.drop (k + 1)) := by
  rw [List.drop_eq_getElem_cons h, List.take_succ_eq_append_getElem h, bandsE]
  have : (l.drop (k + 1)).isEmpty = decide (k + 1 = l.length) := by
    rw [Bool.eq_iff_iff, List.isEmpty_iff, decide_eq_true_iff, List.drop_eq_nil_iff]
    omega
  rw [this]
theorem bandsE_end (l : List Bn) (k : Nat) (h : l.length ≤ k) : bandsE (l.take k) (l.drop k) = 0 := by
  rw [List.drop_eq_nil_of_le h]; rfl

theorem bandE_ok {pre : List Bn} {b : Bn} {last : Bool} (h : bandE pre b last = 0) : isName b.1 = true ∧ pre.any (fun x => sameS x.1 b.1) = false ∧ b.2.all slotOk = true ∧ b.2.length ≤ 64 := by
  unfold bandE at h
  cases h1 : isName b.1 with
  | false => rw [h1] at h; simp at h
  | true =>
    rw [h1, if_neg (by decide)] at h
    cases h2 : pre.any (fun x => sameS x.1 b.1) with
    | true => rw [h2] at h; simp at h
    | false =>
      rw [h2, if_neg (by decide)] at h
      refine ⟨rfl, rfl, ?_⟩
      cases last with
      | true =>
        rw [if_pos rfl] at h
        by_cases h0 : 0 < b.2.length
        · rw [if_pos h0] at h; cases h
        · have : b.2 = [] := List.length_eq_zero_iff.1 (by omega)
          rw [this]; exact ⟨rfl, by simp⟩
      | false =>
        rw [if_neg (by decide)] at h
        unfold slotsE at h
        by_cases h0 : b.2.length = 0
        · rw [if_pos h0] at h; cases h
        · rw [if_neg h0] at h
          by_cases h6 : 64 < b.2.length
          · rw [if_pos h6] at h; cases h
          · rw [if_neg h6] at h
            by_cases h7 : b.2.all slotOk = true
            · exact ⟨h7, by omega⟩
            · rw [if_neg h7] at h; cases h

/-- In a valid list all slots are valid, and all names are names, each once. -/
theorem bandsE_ok : ∀ (r pre : List Bn), bandsE pre r = 0 → (∀ b ∈ r, isName b.1 = true ∧ b.2.all slotOk = true ∧ b.2.length ≤ 64) ∧ r.Pairwise (fun a b => a.1 ≠ b.1) ∧ (∀ a ∈ pre, ∀ b ∈ r, a.1 ≠ b.1)
  | [], _, _ => ⟨fun _ h => (by cases h), List.Pairwise.nil, fun _ _ _ h => (by cases h)⟩
  | b :: r, pre, h => by
    rw [bandsE] at h
    by_cases h0 : bandE pre b r.isEmpty = 0
    · rw [if_neg (not_not_intro h0)] at h
      obtain ⟨a1, a2, a3, a4⟩ := bandE_ok h0
      obtain ⟨b1, b2, b3⟩ := bandsE_ok r (pre ++ [b]) h
      refine ⟨fun x hx => ?_, List.pairwise_cons.2 ⟨fun x hx => b3 b (by simp) x hx, b2⟩, fun x hx y hy => ?_⟩
      · rcases List.mem_cons.1 hx with rfl | hx
        · exact ⟨a1, a3, a4⟩
        · exact b1 x hx
      · rcases List.mem_cons.1 hy with rfl | hy
        · intro he
          rw [List.any_eq_false] at a2
          exact a2 x hx ((sameS_iff _ _).2 he)
        · exact b3 x (by simp [hx]) y hy
    · rw [if_pos h0] at h; exact absurd h h0

theorem checkB_ok {l : List Bn} (h : checkB l = 0) : 0 < l.length ∧ l.length ≤ 64 ∧ (∀ b ∈ l, isName b.1 = true ∧ b.2.all slotOk = true ∧ b.2.length ≤ 64) ∧ l.Pairwise (fun a b => a.1 ≠ b.1) := by
  unfold checkB at h
  by_cases h0 : l.length = 0
  · rw [if_pos h0] at h; cases h
  · rw [if_neg h0] at h
    by_cases h6 : 64 < l.length
    · rw [if_pos h6] at h; cases h
    · rw [if_neg h6] at h
      obtain ⟨a, b, -⟩ := bandsE_ok l [] h
      exact ⟨by omega, by omega, a, b⟩

/-- The number of the bit of a day. -/
def bitQ (hol : List Int) (day : Int) : Nat := if hol.any (fun h => h == day) = true then 7 else ((day + 5) % 7).toNat
/-- Is a minute of a day in a slot? -/
def inSl (q : Nat) (m : Int) (s : Sl) : Bool := decide (s.1 / 2 ^ q % 2 = 1) && decide (s.2.1 ≤ m ∧ m < s.2.2)
def findB (d : ByteArray) (q : Nat) (m : Int) : List Bn → ByteArray
  | [] => d
  | b :: r => if b.2.any (inSl q m) = true then b.1 else findB d q m r
def lastB (l : List Bn) : ByteArray := (l.getLast?.map (·.1)).getD ByteArray.empty
/-- The band of an instant, in a valid list. -/
def bandAt (l : List Bn) (hol : List Int) (t : Int) : ByteArray := findB (lastB l) (bitQ hol (t / 86400)) (t % 86400 / 60) l

theorem bitQ_lt (hol : List Int) (day : Int) : bitQ hol day < 8 := by
  unfold bitQ
  split
  · omega
  · omega

theorem findB_drop (d : ByteArray) (q : Nat) (m : Int) (l : List Bn) (k : Nat) (h : k < l.length) : findB d q m (l.drop k) = if l[k].2.any (inSl q m) = true then l[k].1 else findB d q m (l.drop (k + 1)) := by
  rw [List.drop_eq_getElem_cons h, findB]

theorem inSl_const {q : Nat} {m m' : Int} {s : Sl} (h : s.1 / 2 ^ q % 2 = 1 → ((s.2.1 ≤ m ↔ s.2.1 ≤ m') ∧ (s.2.2 ≤ m ↔ s.2.2 ≤ m'))) : inSl q m s = inSl q m' s := by
  unfold inSl
  by_cases h1 : s.1 / 2 ^ q % 2 = 1
  · obtain ⟨a, b⟩ := h h1
    congr 1
    rw [decide_eq_decide]
    omega
  · rw [decide_eq_false h1]; rfl

theorem any_congr {α : Type} {p p' : α → Bool} : ∀ {l : List α}, (∀ x ∈ l, p x = p' x) → l.any p = l.any p'
  | [], _ => rfl
  | a :: r, h => by
    rw [List.any_cons, List.any_cons, h a (by simp), any_congr (fun x hx => h x (by simp [hx]))]

theorem findB_const (d : ByteArray) (q : Nat) (m m' : Int) : ∀ (l : List Bn), (∀ b ∈ l, ∀ s ∈ b.2, s.1 / 2 ^ q % 2 = 1 → ((s.2.1 ≤ m ↔ s.2.1 ≤ m') ∧ (s.2.2 ≤ m ↔ s.2.2 ≤ m'))) → findB d q m l = findB d q m' l
  | [], _ => rfl
  | b :: r, h => by
    rw [findB, findB, any_congr (fun s hs => inSl_const (h b (by simp) s hs)), findB_const d q m m' r (fun x hx => h x (by simp [hx]))]

/-- The band of an instant is one of the list. -/
theorem findB_mem (d : ByteArray) (q : Nat) (m : Int) : ∀ (l : List Bn), findB d q m l = d ∨ ∃ b ∈ l, findB d q m l = b.1
  | [] => Or.inl rfl
  | b :: r => by
    rw [findB]
    split
    · exact Or.inr ⟨b, by simp, rfl⟩
    · rcases findB_mem d q m r with h | ⟨x, hx, h⟩
      · exact Or.inl h
      · exact Or.inr ⟨x, by simp [hx], h⟩
theorem bandAt_mem (l : List Bn) (hol : List Int) (t : Int) (h : 0 < l.length) : ∃ b ∈ l, bandAt l hol t = b.1 := by
  rcases findB_mem (lastB l) (bitQ hol (t / 86400)) (t % 86400 / 60) l with e | e
  · have hne : l ≠ [] := by rintro rfl; cases h
    refine ⟨l.getLast hne, List.getLast_mem hne, ?_⟩
    unfold bandAt
    rw [e]
    unfold lastB
    rw [List.getLast?_eq_some_getLast hne]
    rfl
  · exact e

/-- Minutes at which bands may change: ascending, the first is 0. -/
def Mins (L : List Int) (on : Sl → Prop) (l : List Bn) : Prop :=
  L.Pairwise (· < ·) ∧ L[0]? = some 0 ∧ (∀ m ∈ L, 0 ≤ m ∧ m < 1440) ∧ ∀ b ∈ l, ∀ s ∈ b.2, on s → (s.2.1 < 1440 → s.2.1 ∈ L) ∧ (s.2.2 < 1440 → s.2.2 ∈ L)

theorem mins_between {L : List Int} (h : L.Pairwise (· < ·)) {i : Nat} (hi : i < L.length) {v m : Int} (hv : v < 1440 → v ∈ L) (h1 : L.getD i 1440 ≤ m) (h2 : m < L.getD (i + 1) 1440) (h3 : m < 1440) : v ≤ L.getD i 1440 ↔ v ≤ m := by
  constructor
  · intro h; omega
  · intro hm
    have hvL := hv (by omega)
    obtain ⟨j, hj, rfl⟩ := List.getElem_of_mem hvL
    have hp := List.pairwise_iff_getElem.1 h
    have e1 : L.getD i 1440 = L[i] := by simp [List.getD, hi]
    rw [e1]
    rcases Nat.lt_trichotomy j i with hlt | rfl | hgt
    · have := hp j i hj hi hlt; omega
    · exact Int.le_refl _
    · by_cases hi2 : i + 1 < L.length
      · have e2 : L.getD (i + 1) 1440 = L[i + 1] := by simp [List.getD, hi2]
        rw [e2] at h2
        rcases Nat.lt_or_ge (i + 1) j with h5 | h5
        · have := hp (i + 1) j hi2 hj h5; omega
        · obtain rfl : j = i + 1 := by omega
          omega
      · omega

/-- Between two minutes of the list the band is one. -/
theorem bandAt_part (l : List Bn) (hol : List Int) (L : List Int) (on : Sl → Prop) (day : Int) (hM : Mins L on l) (hon : ∀ s : Sl, s.1 / 2 ^ bitQ hol day % 2 = 1 → on s) (i : Nat) (hi : i < L.length) (t m : Int)
    (ht : day * 86400 + 60 * L.getD i 1440 ≤ t) (ht2 : t < day * 86400 + 60 * L.getD (i + 1) 1440) (hm : L.getD i 1440 ≤ m) (hm2 : m < L.getD (i + 1) 1440) : bandAt l hol t = findB (lastB l) (bitQ hol day) m l := by
  obtain ⟨h1, h2, h3, h4⟩ := hM
  have e1 : L.getD i 1440 = L[i] := by simp [List.getD, hi]
  have b1 := h3 L[i] (List.getElem_mem hi)
  have b2 : L.getD (i + 1) 1440 ≤ 1440 := by
    by_cases hi2 : i + 1 < L.length
    · have e2 : L.getD (i + 1) 1440 = L[i + 1] := by simp [List.getD, hi2]
      have := h3 L[i + 1] (List.getElem_mem hi2); omega
    · have : L.getD (i + 1) 1440 = 1440 := by simp [List.getD, hi2]
      omega
  have hd : t / 86400 = day := by omega
  have hr : t % 86400 = t - day * 86400 := by omega
  have m1 : L.getD i 1440 ≤ t % 86400 / 60 := by omega
  have m2 : t % 86400 / 60 < L.getD (i + 1) 1440 := by omega
  unfold bandAt
  rw [hd]
  refine findB_const _ _ _ _ l fun b hb s hs hb1 => ?_
  obtain ⟨g1, g2⟩ := h4 b hb s hs (hon s hb1)
  have x1 := mins_between h1 hi g1 m1 m2 (by omega)
  have x2 := mins_between h1 hi g2 m1 m2 (by omega)
  have y1 := mins_between h1 hi g1 hm hm2 (by omega)
  have y2 := mins_between h1 hi g2 hm hm2 (by omega)
  exact ⟨x1.symm.trans y1, x2.symm.trans y2⟩

/-- Pieces tell a function on the instants from a to x. -/
def Rle (g : Int → ByteArray) (a x : Int) : List Pc → Prop
  | [] => a = x
  | p :: r => p.2.1 = a ∧ a < p.2.2 ∧ (∀ t, a ≤ t → t < p.2.2 → g t = p.1) ∧ p.2.2 ≤ x ∧ (r = [] ∨ g p.2.2 ≠ p.1) ∧ Rle g p.2.2 x r

/-- One piece more. -/
def pushP (L : List Pc) (b : ByteArray) (x y : Int) : List Pc :=
  match L.getLast? with
  | some q => if q.1 = b then L.dropLast ++ [(q.1, q.2.1, y)] else L ++ [(b, x, y)]
  | none => [(b, x, y)]

theorem pushP_nil (b : ByteArray) (x y : Int) : pushP [] b x y = [(b, x, y)] := rfl
theorem pushP_eq (M : List Pc) (q : Pc) (b : ByteArray) (x y : Int) (h : q.1 = b) : pushP (M ++ [q]) b x y = M ++ [(q.1, q.2.1, y)] := by
  unfold pushP; rw [List.getLast?_concat, List.dropLast_concat]; exact if_pos h
theorem pushP_ne (M : List Pc) (q : Pc) (b : ByteArray) (x y : Int) (h : q.1 ≠ b) : pushP (M ++ [q]) b x y = M ++ [q] ++ [(b, x, y)] := by
  unfold pushP; rw [List.getLast?_concat]; exact if_neg h
theorem pushP_cons (p q : Pc) (r : List Pc) (b : ByteArray) (x y : Int) : pushP (p :: q :: r) b x y = p :: pushP (q :: r) b x y := by
  obtain ⟨M, z, e⟩ : ∃ M z, q :: r = M ++ [z] := ⟨_, _, (List.dropLast_concat_getLast (by simp)).symm⟩
  rw [e]
  by_cases hz : z.1 = b
  · rw [pushP_eq M z b x y hz, ← List.cons_append, pushP_eq (p :: M) z b x y hz]; rfl
  · rw [pushP_ne M z b x y hz, ← List.cons_append, pushP_ne (p :: M) z b x y hz]; rfl
theorem pushP_ne_nil (L : List Pc) (b : ByteArray) (x y : Int) : pushP L b x y ≠ [] := by
  unfold pushP; split
  · split <;> simp
  · simp

theorem rle_le {g : Int → ByteArray} {x : Int} : ∀ {L : List Pc} {a : Int}, Rle g a x L → a ≤ x
  | [], a, h => by cases h; exact Int.le_refl _
  | p :: r, a, ⟨_, h2, _, h4, _, _⟩ => by omega

theorem rle_push {g : Int → ByteArray} {b : ByteArray} {x y : Int} (hxy : x < y) (hb : ∀ t, x ≤ t → t < y → g t = b) : ∀ (L : List Pc) (a : Int), Rle g a x L → Rle g a y (pushP L b x y)
  | [], a, h => by
    cases h
    exact ⟨rfl, hxy, hb, Int.le_refl _, Or.inl rfl, rfl⟩
  | [p], a, ⟨h1, h2, h3, h4, h5, h6⟩ => by
    have h6 : p.2.2 = x := h6
    by_cases hp : p.1 = b
    · rw [show ([p] : List Pc) = [] ++ [p] from rfl, pushP_eq [] p b x y hp]
      refine ⟨h1, by show a < y; omega, fun t ht1 ht2 => ?_, Int.le_refl _, Or.inl rfl, rfl⟩
      rcases Int.lt_or_le t x with hlt | hge
      · exact h3 t ht1 (by omega)
      · exact (hb t hge ht2).trans hp.symm
    · rw [show ([p] : List Pc) = [] ++ [p] from rfl, pushP_ne [] p b x y hp]
      refine ⟨h1, h2, h3, by omega, Or.inr ?_, ?_⟩
      · rw [h6, hb x (Int.le_refl _) hxy]; exact fun h => hp h.symm
      · rw [h6]
        exact ⟨rfl, hxy, hb, Int.le_refl _, Or.inl rfl, rfl⟩
  | p :: q :: r, a, ⟨h1, h2, h3, h4, h5, h6⟩ => by
    rw [pushP_cons]
    refine ⟨h1, h2, h3, by omega, Or.inr ?_, rle_push hxy hb (q :: r) p.2.2 h6⟩
    rcases h5 with h5 | h5
    · cases h5
    · exact h5

theorem rle_unique {g : Int → ByteArray} {x : Int} : ∀ (L L' : List Pc) (a : Int), Rle g a x L → Rle g a x L' → L = L'
  | [], [], _, _, _ => rfl
  | [], p :: r, a, h, ⟨_, h2, _, h4, _, _⟩ => by cases h; omega
  | p :: r, [], a, ⟨_, h2, _, h4, _, _⟩, h => by cases h; omega
  | p :: r, p' :: r', a, ⟨h1, h2, h3, h4, h5, h6⟩, ⟨k1, k2, k3, k4, k5, k6⟩ => by
    have e1 : p.1 = p'.1 := (h3 a (Int.le_refl _) h2).symm.trans (k3 a (Int.le_refl _) k2)
    have e2 : p.2.2 = p'.2.2 := by
      rcases Int.lt_trichotomy p.2.2 p'.2.2 with hlt | he | hgt
      · exfalso
        have hg := k3 p.2.2 (by omega) hlt
        rcases h5 with rfl | h5
        · have h6 : p.2.2 = x := h6
          omega
        · exact h5 (hg.trans e1.symm)
      · exact he
      · exfalso
        have hg := h3 p'.2.2 (by omega) hgt
        rcases k5 with rfl | k5
        · have k6 : p'.2.2 = x := k6
          omega
        · exact k5 (hg.trans e1)
    obtain ⟨a1, a2, a3⟩ := p
    obtain ⟨b1, b2, b3⟩ := p'
    dsimp only at *
    subst e1; subst e2; subst h1; subst k1
    rw [rle_unique r r' _ h6 k6]

theorem rle_len {g : Int → ByteArray} {x : Int} : ∀ (L : List Pc) (a : Int), Rle g a x L → (L.length : Int) ≤ x - a
  | [], a, h => by cases h; simp
  | p :: r, a, ⟨h1, h2, h3, h4, h5, h6⟩ => by
    have := rle_len r p.2.2 h6
    rw [List.length_cons]
    omega

/-- Each piece: its period, its band, and the piece before. -/
theorem rle_get {g : Int → ByteArray} {x : Int} : ∀ (L : List Pc) (a : Int), Rle g a x L → ∀ i (h : i < L.length), a ≤ L[i].2.1 ∧ L[i].2.1 < L[i].2.2 ∧ L[i].2.2 ≤ x ∧ (∀ t, L[i].2.1 ≤ t → t < L[i].2.2 → g t = L[i].1) ∧
    (i = 0 → L[i].2.1 = a) ∧ (i + 1 = L.length → L[i].2.2 = x) ∧ (∀ j (hj : j < L.length), j + 1 = i → L[i].2.1 = L[j].2.2 ∧ L[i].1 ≠ L[j].1)
  | p :: r, a, ⟨h1, h2, h3, h4, h5, h6⟩, 0, h => by
    simp only [List.getElem_cons_zero]
    refine ⟨by omega, by omega, h4, fun t ht => h3 t (by omega), fun _ => h1, fun he => ?_, fun j hj he => by omega⟩
    obtain rfl : r = [] := List.length_eq_zero_iff.1 (by simpa using he.symm)
    exact h6
  | p :: r, a, ⟨h1, h2, h3, h4, h5, h6⟩, i + 1, h => by
    have hi : i < r.length := by simpa using h
    obtain ⟨g1, g2, g3, g4, g5, g6, g7⟩ := rle_get r p.2.2 h6 i hi
    simp only [List.getElem_cons_succ]
    refine ⟨by omega, g2, g3, g4, fun h => by omega, fun he => g6 (by simpa using he), fun j hj he => ?_⟩
    match j, hj, he with
    | 0, hj, he =>
      obtain rfl : i = 0 := by omega
      simp only [List.getElem_cons_zero]
      have g5 := g5 rfl
      refine ⟨g5, ?_⟩
      rcases h5 with rfl | h5
      · cases hi
      · rw [← g4 r[0].2.1 (Int.le_refl _) g2, g5]; exact h5
    | j + 1, hj, he =>
      simp only [List.getElem_cons_succ]
      exact g7 j (by simpa using hj) (by omega)

/-- An instant between two limits. -/
def clampI (a x u : Int) : Int := max a (min x u)

/-- The seconds of a band. -/
def secP (nm : ByteArray) : List Pc → Int
  | [] => 0
  | p :: r => (if sameS p.1 nm = true then p.2.2 - p.2.1 else 0) + secP nm r
def allP : List Pc → Int
  | [] => 0
  | p :: r => (p.2.2 - p.2.1) + allP r
theorem rle_all {g : Int → ByteArray} {x : Int} : ∀ (L : List Pc) (a : Int), Rle g a x L → allP L = x - a
  | [], a, h => by cases h; simp [allP]
  | p :: r, a, ⟨h1, h2, h3, h4, h5, h6⟩ => by
    have := rle_all r p.2.2 h6
    rw [allP]
    omega
def sumN (L : List Pc) : List ByteArray → Int
  | [] => 0
  | n :: r => secP n L + sumN L r
theorem secP_append (nm : ByteArray) (L : List Pc) (p : Pc) : secP nm (L ++ [p]) = secP nm L + (if sameS p.1 nm = true then p.2.2 - p.2.1 else 0) := by
  induction L with
  | nil => simp [secP]
  | cons a L ih => rw [List.cons_append, secP, secP, ih]; omega
theorem secP_take (nm : ByteArray) (L : List Pc) (k : Nat) (h : k < L.length) : secP nm (L.take (k + 1)) = secP nm (L.take k) + (if sameS L[k].1 nm = true then L[k].2.2 - L[k].2.1 else 0) := by
  rw [List.take_succ_eq_append_getElem h, secP_append]
open Classical in
theorem sumN_cons (p : Pc) (L : List Pc) (N : List ByteArray) (hd : N.Pairwise (· ≠ ·)) : sumN (p :: L) N = (if p.1 ∈ N then p.2.2 - p.2.1 else 0) + sumN L N := by
  induction N with
  | nil => simp [sumN]
  | cons n N ih =>
    obtain ⟨h1, h2⟩ := List.pairwise_cons.1 hd
    rw [sumN, sumN, secP, ih h2]
    by_cases he : p.1 = n
    · have hn : ¬ p.1 ∈ N := fun hm => h1 _ hm he.symm
      rw [if_pos ((sameS_iff _ _).2 he), if_neg hn, if_pos (by rw [he]; simp)]
      omega
    · rw [if_neg (fun h => he ((sameS_iff _ _).1 h))]
      by_cases hm : p.1 ∈ N
      · rw [if_pos hm, if_pos (by simp [hm])]; omega
      · rw [if_neg hm, if_neg (by simp [he, hm])]; omega
open Classical in
/-- The seconds of all bands. -/
theorem sumN_all (N : List ByteArray) (hd : N.Pairwise (· ≠ ·)) : ∀ (L : List Pc), (∀ p ∈ L, p.1 ∈ N) → sumN L N = allP L
  | [], _ => by
    have : ∀ N : List ByteArray, sumN [] N = 0 := by
      intro N
      induction N with
      | nil => rfl
      | cons n N ih => rw [sumN, ih]; rfl
    exact this N
  | p :: L, h => by
    rw [sumN_cons p L N hd, if_pos (h p (by simp)), allP, sumN_all N hd L (fun q hq => h q (by simp [hq]))]
theorem secP_zero (nm : ByteArray) : ∀ (L : List Pc), (∀ p ∈ L, p.1 ≠ nm) → secP nm L = 0
  | [], _ => rfl
  | p :: L, h => by
    rw [secP, if_neg (fun e => h p (by simp) ((sameS_iff _ _).1 e)), secP_zero nm L (fun q hq => h q (by simp [hq]))]
    rfl
end Go.Proofs.YtngippiilgdnoaaGreat

namespace Go.Proofs.YtngippiilgdnoaaGreat

/-- An event. -/
structure Ev where
  tm : Int
  kd : Int
  ac : Int
  sb : Int
  nu : ByteArray
  nm : ByteArray
  vl : Int
instance evInh : Inhabited Ev := ⟨⟨0, 0, 0, 0, ByteArray.empty, ByteArray.empty, 0⟩⟩
/-- An account of the book. -/
structure Ac where
  id : Int
  si : Int
  an : Int
  pre : Bool
  clo : Bool
/-- A subscription of the book. -/
structure Sb where
  id : Int
  ac : Int
  si : Int
  plan : ByteArray
  nus : List ByteArray
  prs : List ByteArray
  su : Bool
  fa : Bool
instance sbInh : Inhabited Sb := ⟨⟨0, 0, 0, ByteArray.empty, [], [], false, false⟩⟩
/-- The book. -/
structure Bk where
  accs : List Ac
  subs : List Sb
  ended : List Int

/-- The place of the first element that serves, or -1. -/
def ixOf {α : Type} (p : α → Bool) (l : List α) : Int := if l.any p = true then (l.findIdx p : Int) else -1
theorem any_take {α : Type} {l : List α} {p : α → Bool} {k : Nat} (hk : k < l.length) (h : (l.take k).any p = false) (hp : p l[k] = false) : (l.take (k + 1)).any p = false := by
  rw [List.take_succ_eq_append_getElem hk, List.any_append, h]
  simp [hp]
theorem any_hit {α : Type} {l : List α} {p : α → Bool} {k : Nat} (hk : k < l.length) (hp : p l[k] = true) : l.any p = true := List.any_eq_true.2 ⟨_, List.getElem_mem hk, hp⟩
theorem any_end {α : Type} {l : List α} {p : α → Bool} {k : Nat} (hk : l.length ≤ k) (h : (l.take k).any p = false) : l.any p = false := by rwa [List.take_of_length_le hk] at h
theorem ixOf_hit {α : Type} {l : List α} {p : α → Bool} {k : Nat} (hk : k < l.length) (h : (l.take k).any p = false) (hp : p l[k] = true) : ixOf p l = k := by
  unfold ixOf
  rw [if_pos (any_hit hk hp)]
  have h1 : l.findIdx p = k := by
    rw [List.findIdx_eq hk]
    refine ⟨hp, fun j hj => ?_⟩
    have := List.any_eq_false.1 h l[j] (by
      rw [List.mem_take_iff_getElem]
      exact ⟨j, by omega, rfl⟩)
    simpa using this
  rw [h1]
theorem ixOf_end {α : Type} {l : List α} {p : α → Bool} {k : Nat} (hk : l.length ≤ k) (h : (l.take k).any p = false) : ixOf p l = -1 := by
  unfold ixOf
  rw [any_end hk h, if_neg (by decide)]
theorem ixOf_cases {α : Type} (p : α → Bool) (l : List α) : (ixOf p l = -1 ∧ l.any p = false) ∨ ∃ k, ∃ h : k < l.length, ixOf p l = k ∧ p l[k] = true ∧ (l.take k).any p = false := by
  unfold ixOf
  by_cases h : l.any p = true
  · rw [if_pos h]
    have h1 : l.findIdx p < l.length := List.findIdx_lt_length.2 (List.any_eq_true.1 h)
    refine Or.inr ⟨_, h1, rfl, List.findIdx_getElem (w := h1), ?_⟩
    rw [List.any_eq_false]
    intro x hx
    obtain ⟨j, hj, rfl⟩ := List.mem_take_iff_getElem.1 hx
    have := List.not_of_lt_findIdx (p := p) (xs := l) (i := j) (by omega)
    simpa using this
  · rw [if_neg h]
    exact Or.inl ⟨rfl, by simpa using h⟩
theorem ixOf_no {α : Type} {p : α → Bool} {l : List α} (h : ixOf p l < 0) : l.any p = false := by
  rcases ixOf_cases p l with ⟨-, h1⟩ | ⟨k, hk, e, -⟩
  · exact h1
  · omega
theorem ixOf_yes {α : Type} {p : α → Bool} {l : List α} (h : 0 ≤ ixOf p l) : ∃ k, ∃ h : k < l.length, ixOf p l = k ∧ p l[k] = true ∧ (l.take k).any p = false := by
  rcases ixOf_cases p l with ⟨h1, -⟩ | h1
  · omega
  · exact h1

/-- How many texts of a list stand before one. -/
def kW (l : List ByteArray) (s : ByteArray) : Nat := (l.takeWhile fun x => Op.bytesLess x.toList s.toList).length
/-- A list with one text more, in its place. -/
def withT (l : List ByteArray) (s : ByteArray) : List ByteArray := l.take (kW l s) ++ [s] ++ l.drop (kW l s)
def withoutT (l : List ByteArray) (s : ByteArray) : List ByteArray := l.filter fun x => !sameS x s
theorem kW_le (l : List ByteArray) (s : ByteArray) : kW l s ≤ l.length := List.Sublist.length_le (List.takeWhile_sublist _)
theorem withT_len (l : List ByteArray) (s : ByteArray) : (withT l s).length = l.length + 1 := by
  have := kW_le l s
  unfold withT
  simp only [List.length_append, List.length_take, List.length_drop, List.length_singleton]
  omega
theorem withoutT_len (l : List ByteArray) (s : ByteArray) : (withoutT l s).length ≤ l.length := List.length_filter_le _ _
theorem kW_at {l : List ByteArray} {s : ByteArray} {k : Nat} (hk : k < l.length) (h : ∀ j (hj : j < k), Op.bytesLess l[j].toList s.toList = true) (hn : Op.bytesLess l[k].toList s.toList = false) : kW l s = k := by
  unfold kW
  have e : l = l.take k ++ (l[k] :: l.drop (k + 1)) := by rw [← List.drop_eq_getElem_cons hk, List.take_append_drop]
  have h2 : (l.takeWhile fun x => Op.bytesLess x.toList s.toList) = ((l.take k ++ (l[k] :: l.drop (k + 1))).takeWhile fun x => Op.bytesLess x.toList s.toList) := congrArg _ e
  rw [h2, List.takeWhile_append_of_pos, List.takeWhile_cons_of_neg (by simp [hn]), List.append_nil, List.length_take]
  · omega
  · intro x hx
    obtain ⟨j, hj, rfl⟩ := List.mem_take_iff_getElem.1 hx
    exact h j (by omega)
theorem kW_all {l : List ByteArray} {s : ByteArray} (h : ∀ j (hj : j < l.length), Op.bytesLess l[j].toList s.toList = true) : kW l s = l.length := by
  unfold kW
  have h2 : ((l ++ []).takeWhile fun x => Op.bytesLess x.toList s.toList) = l ++ ([] : List ByteArray).takeWhile fun x => Op.bytesLess x.toList s.toList := List.takeWhile_append_of_pos (by
    intro x hx
    obtain ⟨j, hj, rfl⟩ := List.mem_iff_getElem.1 hx
    exact h j hj)
  rw [List.append_nil, List.takeWhile_nil, List.append_nil] at h2
  rw [h2]

/-- A subscription after an event about it. -/
def changedS (s : Sb) (e : Ev) : Sb :=
  if e.kd = 4 then { s with nus := [], prs := [] }
  else if e.kd = 5 then { s with nus := withT s.nus e.nu }
  else if e.kd = 6 then { s with nus := withoutT s.nus e.nu }
  else if e.kd = 7 then { s with plan := e.nm }
  else if e.kd = 8 then { s with prs := withT s.prs e.nm }
  else if e.kd = 9 then { s with prs := withoutT s.prs e.nm }
  else if e.kd = 10 then { s with su := true }
  else if e.kd = 11 then { s with su := false }
  else if e.kd = 12 then { s with fa := true }
  else if e.kd = 13 then { s with fa := false }
  else s
def prepaidT : ByteArray := ⟨#[112, 114, 101, 112, 97, 105, 100]⟩
def accIx (b : Bk) (n : Int) : Int := ixOf (fun a => decide (a.id = n)) b.accs
def subIx (b : Bk) (n : Int) : Int := ixOf (fun s => decide (s.id = n)) b.subs
def endedB (b : Bk) (n : Int) : Bool := b.ended.any fun m => decide (m = n)
/-- The book after an event. -/
def applyB (b : Bk) (e : Ev) : Bk :=
  if e.kd = 1 then { b with accs := b.accs ++ [⟨e.ac, e.tm, e.vl, sameS e.nm prepaidT, false⟩] }
  else if e.kd = 2 then { b with accs := b.accs.modify (accIx b e.ac).toNat fun a => { a with clo := true } }
  else if e.kd = 3 then { b with subs := b.subs ++ [⟨e.sb, e.ac, e.tm, e.nm, [], [], false, false⟩] }
  else if 14 ≤ e.kd then b
  else { b with subs := b.subs.modify (subIx b e.sb).toNat fun s => changedS s e, ended := if e.kd = 4 then b.ended ++ [e.sb] else b.ended }
/-- Does an event speak of an account? -/
def usesA (k : Int) : Bool := decide (k = 1) || decide (k = 2) || decide (k = 3) || decide (k = 14) || decide (k = 15)
def usesS (k : Int) : Bool := !(decide (k = 1) || decide (k = 2) || decide (k = 14) || decide (k = 15))
/-- What an event that is accepted behind a book fulfils. -/
structure OkEv (b : Bk) (last : Int) (e : Ev) : Prop where
  k1 : 1 ≤ e.kd
  k2 : e.kd ≤ 15
  t0 : 0 ≤ e.tm
  t1 : e.tm < 12622780800
  t2 : last ≤ e.tm
  a1 : usesA e.kd = true → 1 ≤ e.ac ∧ e.ac ≤ 9999
  a0 : usesA e.kd = false → e.ac = 0
  s1 : usesS e.kd = true → 1 ≤ e.sb ∧ e.sb ≤ 9999
  s0 : usesS e.kd = false → e.sb = 0
  v1 : e.kd = 1 → 1 ≤ e.vl ∧ e.vl ≤ 28
  opn : e.kd = 1 → accIx b e.ac < 0
  acc : usesA e.kd = true → e.kd ≠ 1 → ∃ k, ∃ h : k < b.accs.length, accIx b e.ac = k ∧ (b.accs[k]).clo = false
  add : e.kd = 3 → subIx b e.sb < 0
  sub : usesA e.kd = false → 0 ≤ subIx b e.sb ∧ endedB b e.sb = false
/-- The book of a list of events. -/
def bookOf (l : List Ev) : Bk := l.foldl applyB ⟨[], [], []⟩
theorem bookOf_snoc (l : List Ev) (k : Nat) (h : k < l.length) : bookOf (l.take (k + 1)) = applyB (bookOf (l.take k)) l[k] := by
  unfold bookOf
  rw [List.take_succ_eq_append_getElem h, List.foldl_append]
  rfl
def lastOfE (l : List Ev) (k : Nat) : Int := match k with | 0 => 0 | k + 1 => (l.getD k default).tm
/-- A list of events that is accepted. -/
def OkRun (l : List Ev) : Prop := ∀ i (h : i < l.length), OkEv (bookOf (l.take i)) (lastOfE l i) l[i]

/-- The book's lists are no longer than the events. -/
structure Small (b : Bk) (n : Nat) : Prop where
  a : b.accs.length ≤ n
  s : b.subs.length ≤ n
  e : b.ended.length ≤ n
  nu : ∀ s ∈ b.subs, s.nus.length ≤ n
  pr : ∀ s ∈ b.subs, s.prs.length ≤ n
theorem Small.mono {b : Bk} {n m : Nat} (h : Small b n) (hm : n ≤ m) : Small b m :=
  ⟨Nat.le_trans h.a hm, Nat.le_trans h.s hm, Nat.le_trans h.e hm, fun s hs => Nat.le_trans (h.nu s hs) hm, fun s hs => Nat.le_trans (h.pr s hs) hm⟩
theorem mem_modify {α : Type} {f : α → α} {l : List α} {i : Nat} {x : α} (h : x ∈ l.modify i f) : x ∈ l ∨ ∃ y ∈ l, x = f y := by
  obtain ⟨j, hj, rfl⟩ := List.mem_iff_getElem.1 h
  rw [List.length_modify] at hj
  rw [List.getElem_modify]
  split
  · exact Or.inr ⟨_, List.getElem_mem hj, rfl⟩
  · exact Or.inl (List.getElem_mem hj)
theorem changedS_len (s : Sb) (e : Ev) (n : Nat) (h1 : s.nus.length ≤ n) (h2 : s.prs.length ≤ n) : (changedS s e).nus.length ≤ n + 1 ∧ (changedS s e).prs.length ≤ n + 1 := by
  have a1 := withT_len s.nus e.nu
  have a2 := withoutT_len s.nus e.nu
  have a3 := withT_len s.prs e.nm
  have a4 := withoutT_len s.prs e.nm
  unfold changedS
  repeat' split
  all_goals ((try dsimp only); refine ⟨?_, ?_⟩ <;> (first | omega | (simp; done)))
theorem Small.apply {b : Bk} {n : Nat} (h : Small b n) (e : Ev) : Small (applyB b e) (n + 1) := by
  obtain ⟨h1, h2, h3, h4, h5⟩ := h
  unfold applyB
  split
  · exact ⟨by simp; omega, by simp; omega, by simp; omega, fun s hs => Nat.le_succ_of_le (h4 s hs), fun s hs => Nat.le_succ_of_le (h5 s hs)⟩
  · split
    · exact ⟨by simp; omega, by simp; omega, by simp; omega, fun s hs => Nat.le_succ_of_le (h4 s hs), fun s hs => Nat.le_succ_of_le (h5 s hs)⟩
    · split
      · refine ⟨by simp; omega, by simp; omega, by simp; omega, fun s hs => ?_, fun s hs => ?_⟩
        · rcases List.mem_append.1 hs with hs | hs
          · exact Nat.le_succ_of_le (h4 s hs)
          · rw [List.mem_singleton] at hs; subst hs; exact Nat.zero_le _
        · rcases List.mem_append.1 hs with hs | hs
          · exact Nat.le_succ_of_le (h5 s hs)
          · rw [List.mem_singleton] at hs; subst hs; exact Nat.zero_le _
      · split
        · exact ⟨Nat.le_succ_of_le h1, Nat.le_succ_of_le h2, Nat.le_succ_of_le h3, fun s hs => Nat.le_succ_of_le (h4 s hs), fun s hs => Nat.le_succ_of_le (h5 s hs)⟩
        · refine ⟨Nat.le_succ_of_le h1, by simp; omega, ?_, fun s hs => ?_, fun s hs => ?_⟩
          · show (if e.kd = 4 then b.ended ++ [e.sb] else b.ended).length ≤ _
            split
            · simp; omega
            · omega
          · rcases mem_modify hs with hs | ⟨y, hy, rfl⟩
            · exact Nat.le_succ_of_le (h4 s hs)
            · exact (changedS_len y e n (h4 y hy) (h5 y hy)).1
          · rcases mem_modify hs with hs | ⟨y, hy, rfl⟩
            · exact Nat.le_succ_of_le (h5 s hs)
            · exact (changedS_len y e n (h4 y hy) (h5 y hy)).2
theorem small_book (l : List Ev) : ∀ k, k ≤ l.length → Small (bookOf (l.take k)) k
  | 0, _ => by
    rw [List.take_zero]
    exact ⟨Nat.le_refl _, Nat.le_refl _, Nat.le_refl _, (fun s hs => by cases hs), (fun s hs => by cases hs)⟩
  | k + 1, hk => by
    rw [bookOf_snoc l k (by omega)]
    exact (small_book l k (by omega)).apply _
end Go.Proofs.YtngippiilgdnoaaGreat

namespace Go.Proofs.YtngippiilgdnoaaGreat
open Go.RowKit

structure Bd where
  kd : Int
  zs : List ByteArray
  un : Int
  ro : Int
  pr : Int
  sh : Bool

structure Pd where
  nm : ByteArray
  fm : Int
  fe : Int
  ct : ByteArray
  pro : Bool
  bs : List Bd

/-- The order of texts. -/
def ltS (a b : ByteArray) : Bool := Op.bytesLess a.toList b.toList

def eqS (a b : ByteArray) : Bool := a.toList == b.toList

def ascUpto (l : List ByteArray) (n : Nat) : Bool := (List.range n).all fun i => ltS (l.getD i ByteArray.empty) (l.getD (i + 1) ByteArray.empty)
/-- Is a list of texts ascending? -/
def ascS (l : List ByteArray) : Bool := ascUpto l (l.length - 1)

theorem getD_lt {α : Type} (l : List α) (i : Nat) (d : α) (h : i < l.length) : l.getD i d = l[i] := by simp [List.getD, h]

theorem ascUpto_succ (l : List ByteArray) (k : Nat) (hk : 1 ≤ k) (h : k < l.length) : ascUpto l k = (ascUpto l (k - 1) && ltS l[k - 1] l[k]) := by
  obtain ⟨j, rfl⟩ : ∃ j, k = j + 1 := ⟨k - 1, by omega⟩
  unfold ascUpto
  rw [List.range_succ, List.all_append]
  simp only [List.all_cons, List.all_nil, Bool.and_true, Nat.add_sub_cancel]
  rw [getD_lt _ _ _ (by omega), getD_lt _ _ _ h]

theorem ascUpto_false (l : List ByteArray) (k : Nat) (hk : 1 ≤ k) (h : k < l.length) (hf : ltS l[k - 1] l[k] = false) : ascS l = false := by
  unfold ascS ascUpto
  rw [List.all_eq_false]
  refine ⟨k - 1, by simp; omega, ?_⟩
  have e : k - 1 + 1 = k := by omega
  rw [e, getD_lt _ _ _ (by omega), getD_lt _ _ _ h, hf]
  decide

theorem filter_all {α : Type} (p : α → Bool) (l : List α) : l.all p = true → (l.filter p).length = l.length := by
  intro h
  rw [List.filter_eq_self.2 (fun a ha => (List.all_eq_true.1 h) a ha)]
theorem filter_less {α : Type} (p : α → Bool) (l : List α) : l.all p = false → (l.filter p).length < l.length := by
  intro h
  rcases Nat.lt_or_ge (l.filter p).length l.length with hl | hl
  · exact hl
  · exfalso
    have e : (l.filter p).length = l.length := Nat.le_antisymm (List.length_filter_le _ _) hl
    have := List.length_filter_eq_length_iff.1 e
    rw [List.all_eq_true.2 this] at h
    cases h

/-- The numbers of a bundle are in range. -/
def Bd.ok (b : Bd) : Prop := 1 ≤ b.un ∧ b.un ≤ 1099511627776 ∧ 0 ≤ b.ro ∧ b.ro ≤ 1099511627776 ∧ 0 ≤ b.pr ∧ b.pr ≤ 99
instance decBdOk (b : Bd) : Decidable b.ok := by unfold Bd.ok; infer_instance

/-- The first error of zones. -/
def zonesE (l : List ByteArray) : Int := if 64 < l.length then 5 else if l.all isName = false then 8 else if ascS l = false then 9 else 0
/-- The first error of a bundle. -/
def bundleE (b : Bd) : Int := if b.kd < 1 ∨ 4 < b.kd then 7 else if zonesE b.zs ≠ 0 then zonesE b.zs else if ¬ b.ok then 6 else 0

/-- The first error of bundles. -/
def bundlesE : List Bd → Int
  | [] => 0
  | b :: r => if bundleE b ≠ 0 then bundleE b else bundlesE r

/-- The first error of a product. -/
def prodE (p : Pd) : Int :=
  if isName p.nm = false then 8 else if p.fm < 0 ∨ 12622780800 ≤ p.fm then 15 else if p.fe < 0 ∨ 1125899906842624 < p.fe then 6 else if isName p.ct = false then 8
  else if 64 < p.bs.length then 5 else bundlesE p.bs

/-- Is a version not behind another? -/
def nextBad (a b : Pd) : Bool := (!(ltS a.nm b.nm) && !(eqS a.nm b.nm)) || (eqS a.nm b.nm && decide (b.fm ≤ a.fm))

/-- The first error of products behind one. -/
def prodsE : Option Pd → List Pd → Int
  | _, [] => 0
  | q, p :: r => if prodE p ≠ 0 then prodE p else if (match q with | some a => nextBad a p | none => false) then 9 else prodsE (some p) r
end Go.Proofs.YtngippiilgdnoaaGreat

namespace Go.Proofs.YtngippiilgdnoaaGreat
open Go.RowKit

/-- A zone: its name, its prefixes. -/
abbrev Zn := ByteArray × List ByteArray

def isDig (c : UInt8) : Bool := decide (48 ≤ (c.toNat : Int) ∧ (c.toNat : Int) ≤ 57)
/-- Is a text a number? -/
def isNum (s : ByteArray) : Bool := decide (1 ≤ s.size ∧ s.size ≤ 15) && s.data.toList.all isDig

theorem dig_take (s : ByteArray) (k : Nat) (h : k < s.size) : (s.data.toList.take (k + 1)).all isDig = ((s.data.toList.take k).all isDig && isDig s[k]) := by
  rw [List.take_succ_eq_append_getElem (by simpa using h), List.all_append]
  simp only [List.all_cons, List.all_nil, Bool.and_true]
  rfl
theorem dig_false (s : ByteArray) (k : Nat) (h : k < s.size) (hs : isDig s[k] = false) : s.data.toList.all isDig = false := by
  rw [List.all_eq_false]
  exact ⟨s[k], by have : s[k] = s.data.toList[k]'(by simpa using h) := rfl; rw [this]; exact List.getElem_mem _, by rw [hs]; decide⟩

/-- The first error of prefixes behind others. -/
def prefsE : List ByteArray → List ByteArray → Int
  | _, [] => 0
  | seen, p :: r => if isNum p = false then 12 else if seen.any (fun x => sameS x p) = true then 10 else prefsE (seen ++ [p]) r
/-- All prefixes of zones. -/
def allPr (l : List Zn) : List ByteArray := l.flatMap (·.2)
/-- The first error of a zone behind others. -/
def zoneE (pre : List Zn) (z : Zn) : Int :=
  if isName z.1 = false then 8 else if pre.any (fun x => sameS x.1 z.1) = true then 10 else if z.2.length = 0 then 8 else if 64 < z.2.length then 5 else prefsE (allPr pre) z.2
def zonesE6 : List Zn → List Zn → Int
  | _, [] => 0
  | pre, z :: r => if zoneE pre z ≠ 0 then zoneE pre z else zonesE6 (pre ++ [z]) r
/-- The first error of a list of zones. -/
def checkZ (l : List Zn) : Int := if 64 < l.length then 5 else zonesE6 [] l

theorem zonesE6_step (l : List Zn) (k : Nat) (h : k < l.length) : zonesE6 (l.take k) (l.drop k) =
    if zoneE (l.take k) l[k] ≠ 0 then zoneE (l.take k) l[k] else zonesE6 (l.take (k + 1)) (l.drop (k + 1)) := by
  rw [List.drop_eq_getElem_cons h, List.take_succ_eq_append_getElem h, zonesE6]
theorem zonesE6_end (l : List Zn) (k : Nat) (h : l.length ≤ k) : zonesE6 (l.take k) (l.drop k) = 0 := by
  rw [List.drop_eq_nil_of_le h]; rfl
theorem prefsE_step (seen l : List ByteArray) (k : Nat) (h : k < l.length) : prefsE (seen ++ l.take k) (l.drop k) =
    if isNum l[k] = false then 12 else if (seen ++ l.take k).any (fun x => sameS x l[k]) = true then 10 else prefsE (seen ++ l.take (k + 1)) (l.drop (k + 1)) := by
  rw [List.drop_eq_getElem_cons h, List.take_succ_eq_append_getElem h, prefsE, List.append_assoc]
theorem prefsE_end (seen l : List ByteArray) (k : Nat) (h : l.length ≤ k) : prefsE (seen ++ l.take k) (l.drop k) = 0 := by
  rw [List.drop_eq_nil_of_le h]; rfl
theorem allPr_take (l : List Zn) (k : Nat) (h : k < l.length) : allPr (l.take (k + 1)) = allPr (l.take k) ++ l[k].2 := by
  unfold allPr
  rw [List.take_succ_eq_append_getElem h, List.flatMap_append]
  simp
end Go.Proofs.YtngippiilgdnoaaGreat

namespace Go.Proofs.YtngippiilgdnoaaGreat
open Go.RowKit

theorem num_end (s : ByteArray) (h : s.data.toList.all isDig = true) : isNum s = decide (1 ≤ s.size ∧ s.size ≤ 15) := by unfold isNum; rw [h, Bool.and_true]
theorem num_bad (s : ByteArray) (h : s.data.toList.all isDig = false) : isNum s = false := by unfold isNum; rw [h, Bool.and_false]

set_option maxHeartbeats 1600000 in
theorem r2valid_calls (s : ByteArray) (w : World) (hs : s.size ≤ maxLen) : Calls Tryz.prog 151 #[.string s] w fun e w' => e = .returned (.bool (isNum s)) ∧ w = w' := by
  unfold maxLen at hs
  have HB := Lib.hid (num_bad s)
  have HE := Lib.hid (num_end s)
  go_enter Tryz.func151, Tryz.ntmps151
  go_wp2
  go_loop [3] (fun i => ∃ k : Nat, k ≤ s.size ∧ i = .int .i64 k ∧ (s.data.toList.take k).all isDig = true) (fun i => s.size - (intOf i).toNat)
  case atStart => exact ⟨0, Nat.zero_le _, rfl, rfl⟩
  case round =>
    obtain ⟨k, hk, rfl, ha⟩ := hrel
    have Ha := Lib.hid ha
    clear ha
    by_cases hlt : k < s.size
    · have hlt' : (k : Int) < (s.size : Int) := by omega
      have HT := Lib.hid (dig_take s k hlt)
      have HF := Lib.hid (dig_false s k hlt)
      cases hg : isDig s[k] with
      | true =>
        have hd : 48 ≤ (s[k].toNat : Int) ∧ (s[k].toNat : Int) ≤ 57 := of_decide_eq_true hg
        obtain ⟨d1, d2⟩ := hd
        have HT2 := Lib.hid (show (s.data.toList.take (k + 1)).all isDig = true by rw [HT.out, Ha.out, hg]; rfl)
        clear hg
        go_wp2
        exact ⟨⟨k + 1, by omega, by go_num, HT2.out⟩, by simp [intOf]; omega⟩
      | false =>
        have hd : ¬ (48 ≤ (s[k].toNat : Int) ∧ (s[k].toNat : Int) ≤ 57) := of_decide_eq_false hg
        have HN := Lib.hid (HB.out (HF.out hg))
        have hc : (s[k].toNat : Int) < 48 ∨ (48 ≤ (s[k].toNat : Int) ∧ 57 < (s[k].toNat : Int)) := by omega
        clear hg hd
        rcases hc with hc | ⟨h1, h2⟩
        all_goals
          go_wp2
          go_ret
          exact ⟨ret_bool HN.out.symm, rfl⟩
    · have HN := Lib.hid (HE.out (by rw [← Ha.out, List.take_of_length_le (by simp; omega)]))
      by_cases h1 : 1 ≤ s.size
      · go_wp2
        go_ret
        exact ⟨ret_bool (by rw [HN.out]; exact decide_eq_decide.2 (by omega)), rfl⟩
      · go_wp2
        go_ret
        exact ⟨ret_bool (by rw [HN.out]; first | exact (decide_eq_false (by omega)).symm | exact decide_eq_decide.2 (by omega)), rfl⟩
end Go.Proofs.YtngippiilgdnoaaGreat
