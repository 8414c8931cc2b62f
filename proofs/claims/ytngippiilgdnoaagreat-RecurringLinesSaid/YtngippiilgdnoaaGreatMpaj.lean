/-
  The walk of what two periods have in common (the program's Intersect).
  The walks of amount's division of a product, the program's and the reference's.
  The walk of the reference's add: an ascending list of numbers with one more.
  The walks of Valid at amounts: the program's and the reference's.
  The walk of the reference's division of a product.
  The walk of amount.Scale: a product divided and rounded, or the first error.
  The walk of the reference's Scale.
-/
import Derived.Test.YtngippiilgdnoaaGreatMpai
import Derived.Test.YtngippiilgdnoaaGreatMpad
namespace Go.Proofs.YtngippiilgdnoaaGreat
open Go.RowKit

end Go.Proofs.YtngippiilgdnoaaGreat

namespace Go.Proofs.YtngippiilgdnoaaGreat
open Go.RowKit

theorem bit_and (x : Int) (h0 : 0 ≤ x) (h1 : x < 9223372036854775808) : bits .and .i64 x 1 = x % 2 := by
  obtain ⟨n, rfl⟩ := Int.eq_ofNat_of_zero_le h0
  show IntKind.i64.wrap (((BitVec.ofInt 64 (n : Int) &&& BitVec.ofInt 64 1 : BitVec 64).toNat : Nat) : Int) = _
  have e2 : (BitVec.ofInt 64 (n : Int) &&& BitVec.ofInt 64 1 : BitVec 64).toNat = n % 2 := by
    rw [BitVec.ofInt_natCast, BitVec.toNat_and, BitVec.toNat_ofNat, Nat.mod_eq_of_lt (by omega)]
    exact Nat.and_one_is_mod n
  rw [e2]
  have h2 : n % 2 < 2 := Nat.mod_lt _ (by omega)
  rw [IntWalk.i64_in _ (by omega)]
  omega

theorem half_pow (n : Int) (k : Nat) : n / 2 ^ (k + 1) = (n / 2 ^ k) / 2 := by
  rw [Int.pow_succ, Int.ediv_ediv_of_nonneg (by exact Int.le_of_lt (Int.pow_pos (by decide)))]
theorem pow_le (n : Int) (k : Nat) (h : 0 ≤ n) : 0 ≤ n / 2 ^ k ∧ n / 2 ^ k ≤ n :=
  ⟨Int.ediv_nonneg h (Int.le_of_lt (Int.pow_pos (by decide))), Int.ediv_le_self _ h⟩

/-- One bit further. -/
theorem div_step (a d Q R h b : Int) (hd : 0 < d) (inv : Q * d + R = a * h) (hb : b = 0 ∨ b = 1) (q1 r1 : Int) (hq : q1 = 2 * Q + b * (a / d)) (hr : r1 = 2 * R + b * (a % d)) :
    (q1 + r1 / d) * d + r1 % d = a * (2 * h + b) ∧ 0 ≤ r1 % d ∧ r1 % d < d := by
  have e1 := Int.mul_ediv_add_emod r1 d
  have e2 := Int.mul_ediv_add_emod a d
  refine ⟨?_, Int.emod_nonneg _ (by omega), Int.emod_lt_of_pos _ hd⟩
  rw [Int.add_mul, Int.mul_comm (r1 / d) d, Int.mul_add, hq, Int.add_mul, Int.mul_assoc 2 Q d]
  have e3 : a * (2 * h) = 2 * (a * h) := by rw [← Int.mul_assoc, Int.mul_comm a 2, Int.mul_assoc]
  rw [e3]
  rcases hb with rfl | rfl
  · rw [Int.zero_mul, Int.zero_mul, Int.mul_zero]
    omega
  · rw [Int.one_mul, Int.mul_one]
    rw [Int.one_mul] at hr
    rw [Int.mul_comm (a / d) d]
    omega
/-- What a quotient is. -/
theorem div_exact (N d Q R : Int) (hd : 0 < d) (h : Q * d + R = N) (h0 : 0 ≤ R) (h1 : R < d) : N / d = Q ∧ N % d = R := by
  rw [← h, Int.add_comm, Int.mul_comm]
  constructor
  · rw [Int.add_mul_ediv_left _ _ (by omega), Int.ediv_eq_zero_of_lt h0 h1]; omega
  · rw [Int.add_mul_emod_self_left, Int.emod_eq_of_lt h0 h1]

/-- What the program's division gives: the quotient and the remainder, or something beyond all amounts. -/
def DivTo (a n d : Int) (w : World) (e : Ending) (w' : World) : Prop := ∃ q r, e = .returned (.tuple #[.int .i64 q, .int .i64 r]) ∧ Below w.heap.size w w' ∧
  ((q = a * n / d ∧ r = a * n % d ∧ q ≤ 2251799813685248) ∨ (2251799813685248 < q ∧ q ≤ 9007199254740992 ∧ r = 0 ∧ 2251799813685248 < a * n / d))

set_option maxRecDepth 100000 in
set_option maxHeartbeats 6400000 in
theorem divide_calls (a n d : Int) (w : World) (ha : 0 ≤ a) (ha2 : a ≤ 1125899906842624) (hn : 0 ≤ n) (hn2 : n ≤ 1099511627776) (hd : 1 ≤ d) (hd2 : d ≤ 1099511627776) :
    Calls Tryz.prog 122 #[.int .i64 a, .int .i64 n, .int .i64 d] w (DivTo a n d w) := by
  go_enter Tryz.func122, Tryz.ntmps122
  go_wp2_with fail
  go_loopw [8, 9, 10] (fun q r b wr => ∃ (m : Nat) (Q R : Int), m ≤ 63 ∧ b = .int .i64 ((m : Int) - 1) ∧ q = .int .i64 Q ∧ r = .int .i64 R ∧ 0 ≤ R ∧ R < d ∧ 0 ≤ Q ∧ Q ≤ 2251799813685248 ∧ Q * d + R = a * (n / 2 ^ m) ∧ Below w.heap.size w wr) (fun _ _ b _ => ((intOf b) + 1).toNat)
  case atStart =>
    refine ⟨63, 0, 0, Nat.le_refl _, rfl, rfl, rfl, Int.le_refl _, by omega, Int.le_refl _, by omega, ?_, Below.refl _ _⟩
    rw [Int.ediv_eq_zero_of_lt hn (by have : (2 : Int) ^ 63 = 9223372036854775808 := by decide
                                      omega)]
    omega
  case round =>
    obtain ⟨m, Q, R, hm, rfl, rfl, rfl, hR, hR2, hQ, hQ2, hinv, hb⟩ := hrel
    have hd0 : ¬ d = 0 := by omega
    have w1 : IntKind.i64.wrap (2 * Q) = 2 * Q := IntWalk.i64_in _ (by omega)
    have w2 : IntKind.i64.wrap (2 * R) = 2 * R := IntWalk.i64_in _ (by omega)
    have Hinv := Lib.hid hinv
    clear hinv
    by_cases h0 : m = 0
    · subst h0
      have h := Hinv.out
      rw [Int.pow_zero, Int.ediv_one] at h
      have HE := Lib.hid (div_exact (a * n) d Q R (by omega) h hR hR2)
      clear h
      go_wp2
      go_ret2
      exact ⟨Q, R, rfl, hb, Or.inl ⟨HE.out.1.symm, HE.out.2.symm, hQ2⟩⟩
    · obtain ⟨k, rfl⟩ : ∃ k : Nat, m = k + 1 := ⟨m - 1, by omega⟩
      have hkk : ((k + 1 : Nat) : Int) - 1 = (k : Int) := by omega
      rw [hkk]
      have hk0 : (0 : Int) ≤ (k : Int) := Int.natCast_nonneg _
      have hk63 : k ≤ 62 := by omega
      have hh := pow_le n k hn
      have Hbit := Lib.hid (bit_and (n / 2 ^ k) hh.1 (by omega))
      have Hhalf := Lib.hid (half_pow n k)
      have hbb : (n / 2 ^ k) % 2 = 0 ∨ (n / 2 ^ k) % 2 = 1 := by omega
      have had : 0 ≤ a / d := Int.ediv_nonneg ha (by omega)
      have had2 : a / d ≤ a := Int.ediv_le_self _ ha
      have ham : 0 ≤ a % d := Int.emod_nonneg _ (by omega)
      have ham2 : a % d < d := Int.emod_lt_of_pos _ (by omega)
      clear h0 hkk hm
      rcases hbb with hbb | hbb
      · have hbit : (bits BinOp.and IntKind.i64 (n / 2 ^ k) 1 == 1) = false := by rw [Hbit.out, hbb]; rfl
        have HS := Lib.hid (div_step a d Q R (n / 2 ^ (k + 1)) 0 (by omega) Hinv.out (Or.inl rfl) (2 * Q) (2 * R) (by omega) (by omega))
        rw [show 2 * (n / 2 ^ (k + 1)) + 0 = n / 2 ^ k by rw [Hhalf.out]; omega] at HS
        have HH := Lib.hid hh
        have hr0 : 0 ≤ (2 * R) / d := Int.ediv_nonneg (by omega) (by omega)
        have hr1 : (2 * R) / d ≤ 2 * R := Int.ediv_le_self _ (by omega)
        have hs0 : 0 ≤ (2 * R) % d := Int.emod_nonneg _ (by omega)
        have hs1 : (2 * R) % d < d := Int.emod_lt_of_pos _ (by omega)
        have hp0 : 0 ≤ 2 * R := by omega
        have w3 : IntKind.i64.wrap (2 * Q + (2 * R) / d) = 2 * Q + (2 * R) / d := IntWalk.i64_in _ (by omega)
        clear hbb hh
        by_cases hx : 2251799813685248 < 2 * Q + (2 * R) / d
        · have HX := Lib.hid (show 2251799813685248 < a * n / d from by
            have h1 := HS.out.1
            have h2 := HH.out
            have h3 : a * (n / 2 ^ k) ≤ a * n := Int.mul_le_mul_of_nonneg_left h2.2 ha
            have h4 : 2251799813685249 * d ≤ (2 * Q + (2 * R) / d) * d := Int.mul_le_mul_of_nonneg_right (by omega) (by omega)
            have h5 : 2251799813685249 ≤ a * n / d := (Int.le_ediv_iff_mul_le (by omega)).2 (by omega)
            omega)
          go_wp2
          go_ret2
          exact ⟨_, _, rfl, hb, Or.inr ⟨hx, by omega, rfl, HX.out⟩⟩
        · go_wp2
          exact ⟨⟨k, _, _, by omega, rfl, rfl, rfl, hs0, hs1, by omega, by omega, HS.out.1, hb⟩, by simp [intOf]⟩
      · have hbit : (bits BinOp.and IntKind.i64 (n / 2 ^ k) 1 == 1) = true := by rw [Hbit.out, hbb]; rfl
        have HS := Lib.hid (div_step a d Q R (n / 2 ^ (k + 1)) 1 (by omega) Hinv.out (Or.inr rfl) (2 * Q + a / d) (2 * R + a % d) (by omega) (by omega))
        rw [show 2 * (n / 2 ^ (k + 1)) + 1 = n / 2 ^ k by rw [Hhalf.out]; omega] at HS
        have HH := Lib.hid hh
        have hr0 : 0 ≤ (2 * R + a % d) / d := Int.ediv_nonneg (by omega) (by omega)
        have hr1 : (2 * R + a % d) / d ≤ 2 * R + a % d := Int.ediv_le_self _ (by omega)
        have hs0 : 0 ≤ (2 * R + a % d) % d := Int.emod_nonneg _ (by omega)
        have hs1 : (2 * R + a % d) % d < d := Int.emod_lt_of_pos _ (by omega)
        have hp0 : 0 ≤ 2 * R + a % d := by omega
        have w4 : IntKind.i64.wrap (2 * Q + a / d) = 2 * Q + a / d := IntWalk.i64_in _ (by omega)
        have w5 : IntKind.i64.wrap (2 * R + a % d) = 2 * R + a % d := IntWalk.i64_in _ (by omega)
        have w3 : IntKind.i64.wrap (2 * Q + a / d + (2 * R + a % d) / d) = 2 * Q + a / d + (2 * R + a % d) / d := IntWalk.i64_in _ (by omega)
        clear hbb hh
        by_cases hx : 2251799813685248 < 2 * Q + a / d + (2 * R + a % d) / d
        · have HX := Lib.hid (show 2251799813685248 < a * n / d from by
            have h1 := HS.out.1
            have h2 := HH.out
            have h3 : a * (n / 2 ^ k) ≤ a * n := Int.mul_le_mul_of_nonneg_left h2.2 ha
            have h4 : 2251799813685249 * d ≤ (2 * Q + a / d + (2 * R + a % d) / d) * d := Int.mul_le_mul_of_nonneg_right (by omega) (by omega)
            have h5 : 2251799813685249 ≤ a * n / d := (Int.le_ediv_iff_mul_le (by omega)).2 (by omega)
            omega)
          go_wp2
          go_ret2
          exact ⟨_, _, rfl, hb, Or.inr ⟨hx, by omega, rfl, HX.out⟩⟩
        · go_wp2
          exact ⟨⟨k, _, _, by omega, rfl, rfl, rfl, hs0, hs1, by omega, by omega, HS.out.1, hb⟩, by simp [intOf]⟩
end Go.Proofs.YtngippiilgdnoaaGreat

namespace Go.Proofs.YtngippiilgdnoaaGreat
open Go.RowKit

theorem Tryz.intInfo : (Tryz.prog.info? 3).map (fun i => (i.zero, i.size, i.bytes)) = some (some (.int .i64 0), 1, 8) := by kernel_rfl

/-- A number in a cell. -/
def IntC (w : World) (b o : Nat) (n : Int) : Prop := w.cell? ⟨b, o, none⟩ = some (.int .i64 n)
theorem IntC.stays : Stays IntC := fun _ _ b o _ hb hB h => (hb.cell (p := ⟨b, o, none⟩) hB).trans h
def IcsAt (w : World) (v : Value) (l : List Int) : Prop := SliceAt 1 IntC w v l
theorem IcsAt.below {w w' : World} {v : Value} {l : List Int} (h : IcsAt w v l) (hb : Below w.heap.size w w') : IcsAt w' v l := SliceAt.below IntC.stays h hb
def icCells (n : Int) : List Value := [.int .i64 n]
theorem flat_ic (l : List Int) : l.flatMap icCells = l.map (Value.int .i64) := by
  induction l with
  | nil => rfl
  | cons a l ih => rw [List.flatMap_cons, ih]; rfl
theorem IcsAt.own {w : World} {base : Nat} {e : TypeId} {v : Value} {l : List Int} (h : w.ownsRow base e 1 v l.length (l.map (Value.int .i64))) : IcsAt w v l := by
  rw [← flat_ic] at h
  exact SliceAt.own icCells (fun _ => rfl) h fun g o i hi hc => hc 0 Nat.zero_lt_one

def addStep (n : Int) (s : List Int × Bool) (x : Int) : List Int × Bool :=
  if s.2 = false ∧ n ≤ x then (if x = n then (s.1 ++ [n], true) else (s.1 ++ [n] ++ [x], true)) else (if x = n then s else (s.1 ++ [x], s.2))
def addL (l : List Int) (n : Int) : List Int := if (l.foldl (addStep n) ([], false)).2 = true then (l.foldl (addStep n) ([], false)).1 else (l.foldl (addStep n) ([], false)).1 ++ [n]
theorem add_snoc (n : Int) (l : List Int) (k : Nat) (h : k < l.length) : (l.take (k + 1)).foldl (addStep n) ([], false) = addStep n ((l.take k).foldl (addStep n) ([], false)) l[k] := by
  rw [List.take_succ_eq_append_getElem h, List.foldl_append]; rfl
theorem add_len (n : Int) : ∀ (l : List Int) (s : List Int × Bool), (l.foldl (addStep n) s).1.length + (if (l.foldl (addStep n) s).2 = true then 0 else 1) ≤ s.1.length + l.length + (if s.2 = true then 0 else 1) := by
  intro l
  induction l with
  | nil => intro s; exact Nat.le_refl _
  | cons x r ih =>
    intro s
    rw [List.foldl_cons]
    refine Nat.le_trans (ih _) ?_
    have : (addStep n s x).1.length + (if (addStep n s x).2 = true then 0 else 1) ≤ s.1.length + 1 + (if s.2 = true then 0 else 1) := by
      unfold addStep
      by_cases h1 : s.2 = false ∧ n ≤ x
      · rw [if_pos h1]
        by_cases h2 : x = n
        · rw [if_pos h2]; simp [h1.1]
        · rw [if_neg h2]; simp [h1.1]
      · rw [if_neg h1]
        by_cases h2 : x = n
        · rw [if_pos h2]; omega
        · rw [if_neg h2]; simp <;> omega
    rw [List.length_cons]
    omega
theorem addL_len (l : List Int) (n : Int) : (addL l n).length ≤ l.length + 1 := by
  have := add_len n l ([], false)
  unfold addL
  generalize l.foldl (addStep n) ([], false) = s at *
  by_cases h : s.2 = true
  · rw [if_pos h] at *; simp at this; omega
  · rw [if_neg h] at *; simp at this; rw [List.length_append]; simp; omega

def IcsTo (w : World) (N : List Int) (e : Ending) (w' : World) : Prop := ∃ v, e = .returned v ∧ IcsAt w' v N ∧ Below w.heap.size w w'

set_option maxRecDepth 100000 in
set_option maxHeartbeats 6400000 in
theorem add_calls (v : Value) (l : List Int) (n : Int) (w : World) (h : IcsAt w v l) (hl : l.length ≤ 10000) :
    Calls Tryz.prog 173 #[v, .int .i64 n] w (IcsTo w (addL l n)) := by
  have hh := h
  obtain ⟨av, cap, rfl, -, -, -⟩ := h
  go_enter Tryz.func173, Tryz.ntmps173
  go_wp2_with fail
  go_loopw [5, 6, 7] (fun v d i wr => ∃ (k : Nat) (N : List Int) (dn : Bool), k ≤ l.length ∧ i = .int .i64 k ∧ d = .bool dn ∧ (l.take k).foldl (addStep n) ([], false) = (N, dn) ∧ N.length ≤ k + 1 ∧ wr.ownsRow w.heap.size 3 1 v N.length (N.map (Value.int .i64)) ∧ Below w.heap.size w wr) (fun _ _ i _ => l.length - (intOf i).toNat)
  case atStart => exact ⟨0, [], false, Nat.zero_le _, rfl, rfl, rfl, by simp, ⟨rfl, Or.inl ⟨rfl, rfl⟩⟩, Below.refl _ _⟩
  case round =>
    obtain ⟨k, N, dn, hk, rfl, rfl, hN, hle, hown, hb⟩ := hrel
    have hbz := hb.size
    obtain ⟨ao, co, rfl, hco, -⟩ := own_shape hown
    obtain ⟨i0, hi, hz0, hz1, hz2⟩ := info_parts Tryz.intInfo
    have Hi := Lib.hid (And.intro hi (And.intro hz0 (And.intro hz1 hz2)))
    clear hi hz0 hz1 hz2
    have Hown := Lib.hid hown
    clear hown
    by_cases hlt : k < l.length
    · obtain ⟨av', cap', hv, -, -, hs⟩ := hh.below hb
      cases hv
      obtain ⟨b, o, rfl, hB, hs⟩ := hs (by rintro rfl; cases hlt)
      have c0 := hs k hlt
      unfold IntC at c0
      rw [Nat.mul_one] at c0
      have Hc0 := Lib.hid (show ∀ w', Below w.heap.size w w' → w'.cell? ⟨b, o + k, none⟩ = some (.int .i64 l[k]) from fun w' hw => by
        obtain ⟨av3, cap3, e3, -, -, hy⟩ := hh.below hw
        cases e3
        obtain ⟨b3, o3, e4, -, hy⟩ := hy (by rintro rfl; cases hlt)
        cases e4
        have := hy k hlt
        unfold IntC at this
        rwa [Nat.mul_one] at this)
      have hst := add_snoc n l k hlt
      have hln := add_len n (l.take k) ([], false)
      rw [List.length_take, Nat.min_eq_left (by omega)] at hln
      rw [hN] at hln hst
      clear hs hN
      generalize l[k] = x at *
      have hk0 : (0 : Int) ≤ (k : Int) := Int.natCast_nonneg _
      have hk1 : (k : Int) < (l.length : Int) := by omega
      cases dn with
      | false =>
        by_cases h1 : n ≤ x
        · have d1 : decide (n ≤ x) = true := decide_eq_true h1
          by_cases h2 : x = n
          · subst h2
            have d2 : (x != x) = false := bne_self_eq_false _
            have hlen : N.length ≤ k := by simp at hln; omega
            have HT := Lib.hid (show (l.take (k + 1)).foldl (addStep x) ([], false) = (N ++ [x], true) by rw [hst]; unfold addStep; rw [if_pos ⟨rfl, Int.le_refl _⟩, if_pos rfl])
            have HL := Lib.hid (show (N ++ [x]).length ≤ k + 1 + 1 by simp only [List.length_append, List.length_cons, List.length_nil]; omega)
            clear hst hln
            go_wp2_with (at_builtin; refine wpList_append_own _ rfl _ _ 96 rfl w.heap.size 3 i0 _ 1 8 Tryz.underlying96 Hi.out.1 Hi.out.2.1 Hi.out.2.2.1 Hi.out.2.2.2 rfl (by decide) _ _ _ rfl (Hown.out.alloc _) ⟨wr.heap.size, 0, none⟩ 1 1 [.int .i64 x] rfl rfl (World.news_of_block (cs := #[.int .i64 x]) (t := 3) (fr := (0, 0)) (heap_alloc_new _ _)) ?aq2 ?aq3 ?aq4 ?aq5 ?_)
            case aq2 => simp [Value.oneCell']
            case aq3 => unfold maxLen; (try simp only [List.length_append, List.length_cons, List.length_nil]); omega
            case aq4 => (try simp only [List.length_append, List.length_cons, List.length_nil]); omega
            case aq5 => (try simp); omega
            intro v_w2 w2 hown_w2 hgrow _
            have hb2 := (hb.alloc hbz (Obj.cells #[.int .i64 x] 3)).grown hgrow (by simp; omega) (fun g hg => (ownsRow_block Hown.out g hg).1)
            have Hown2 := Lib.hid hown_w2
            have hz_w2 := hb2.size
            clear hown_w2 hgrow
            have c1 := Hc0.out w2 hb2
            obtain ⟨ao2, co2, rfl, -, -⟩ := own_shape Hown2.out
            go_wp2
            exact ⟨⟨k + 1, N ++ [x], true, by omega, by go_num, rfl, HT.out, HL.out, by have := Hown2.out; simpa using this, hb2⟩, by simp [intOf]; omega⟩
          · have d2 : (x != n) = true := by rw [bne_iff_ne]; exact h2
            have hlen : N.length ≤ k := by simp at hln; omega
            have HT := Lib.hid (show (l.take (k + 1)).foldl (addStep n) ([], false) = (N ++ [n] ++ [x], true) by rw [hst]; unfold addStep; rw [if_pos ⟨rfl, h1⟩, if_neg h2])
            have HL := Lib.hid (show (N ++ [n] ++ [x]).length ≤ k + 1 + 1 by simp only [List.length_append, List.length_cons, List.length_nil]; omega)
            clear hst hln
            go_wp2_with (at_builtin; refine wpList_append_own _ rfl _ _ 96 rfl w.heap.size 3 i0 _ 1 8 Tryz.underlying96 Hi.out.1 Hi.out.2.1 Hi.out.2.2.1 Hi.out.2.2.2 rfl (by decide) _ _ _ rfl (Hown.out.alloc _) ⟨wr.heap.size, 0, none⟩ 1 1 [.int .i64 n] rfl rfl (World.news_of_block (cs := #[.int .i64 n]) (t := 3) (fr := (0, 0)) (heap_alloc_new _ _)) ?bq2 ?bq3 ?bq4 ?bq5 ?_)
            case bq2 => simp [Value.oneCell']
            case bq3 => unfold maxLen; (try simp only [List.length_append, List.length_cons, List.length_nil]); omega
            case bq4 => (try simp only [List.length_append, List.length_cons, List.length_nil]); omega
            case bq5 => (try simp); omega
            intro v_w2 w2 hown_w2 hgrow _
            have hb2 := (hb.alloc hbz (Obj.cells #[.int .i64 n] 3)).grown hgrow (by simp; omega) (fun g hg => (ownsRow_block Hown.out g hg).1)
            have Hown2 := Lib.hid hown_w2
            have hz_w2 := hb2.size
            clear hown_w2 hgrow
            have c1 := Hc0.out w2 hb2
            obtain ⟨ao2, co2, rfl, -, -⟩ := own_shape Hown2.out
            go_wp2_with (at_builtin; refine wpList_append_own _ rfl _ _ 96 rfl w.heap.size 3 i0 _ 1 8 Tryz.underlying96 Hi.out.1 Hi.out.2.1 Hi.out.2.2.1 Hi.out.2.2.2 rfl (by decide) _ _ _ rfl (Hown2.out.alloc _) ⟨w2.heap.size, 0, none⟩ 1 1 [.int .i64 x] rfl rfl (World.news_of_block (cs := #[.int .i64 x]) (t := 3) (fr := (0, 0)) (heap_alloc_new _ _)) ?cq2 ?cq3 ?cq4 ?cq5 ?_)
            case cq2 => simp [Value.oneCell']
            case cq3 => unfold maxLen; (try simp only [List.length_append, List.length_cons, List.length_nil]); omega
            case cq4 => (try simp only [List.length_append, List.length_cons, List.length_nil]); omega
            case cq5 => (try simp); omega
            intro v_w3 w3 hown_w3 hgrow _
            have hb3 := (hb2.alloc hz_w2 (Obj.cells #[.int .i64 x] 3)).grown hgrow (by simp; omega) (fun g hg => (ownsRow_block Hown2.out g hg).1)
            have Hown3 := Lib.hid hown_w3
            have hz_w3 := hb3.size
            clear hown_w3 hgrow
            obtain ⟨ao3, co3, rfl, -, -⟩ := own_shape Hown3.out
            go_wp2
            exact ⟨⟨k + 1, N ++ [n] ++ [x], true, by omega, by go_num, rfl, HT.out, HL.out, by have := Hown3.out; simpa using this, hb3⟩, by simp [intOf]; omega⟩
        · have d1 : decide (n ≤ x) = false := decide_eq_false h1
          have h2 : x ≠ n := by omega
          have d2 : (x != n) = true := by rw [bne_iff_ne]; exact h2
          have hlen : N.length ≤ k := by simp at hln; omega
          have HT := Lib.hid (show (l.take (k + 1)).foldl (addStep n) ([], false) = (N ++ [x], false) by rw [hst]; unfold addStep; rw [if_neg (fun h => h1 h.2), if_neg h2])
          have HL := Lib.hid (show (N ++ [x]).length ≤ k + 1 + 1 by simp only [List.length_append, List.length_cons, List.length_nil]; omega)
          clear hst hln
          go_wp2_with (at_builtin; refine wpList_append_own _ rfl _ _ 96 rfl w.heap.size 3 i0 _ 1 8 Tryz.underlying96 Hi.out.1 Hi.out.2.1 Hi.out.2.2.1 Hi.out.2.2.2 rfl (by decide) _ _ _ rfl (Hown.out.alloc _) ⟨wr.heap.size, 0, none⟩ 1 1 [.int .i64 x] rfl rfl (World.news_of_block (cs := #[.int .i64 x]) (t := 3) (fr := (0, 0)) (heap_alloc_new _ _)) ?dq2 ?dq3 ?dq4 ?dq5 ?_)
          case dq2 => simp [Value.oneCell']
          case dq3 => unfold maxLen; (try simp only [List.length_append, List.length_cons, List.length_nil]); omega
          case dq4 => (try simp only [List.length_append, List.length_cons, List.length_nil]); omega
          case dq5 => (try simp); omega
          intro v_w2 w2 hown_w2 hgrow _
          have hb2 := (hb.alloc hbz (Obj.cells #[.int .i64 x] 3)).grown hgrow (by simp; omega) (fun g hg => (ownsRow_block Hown.out g hg).1)
          have Hown2 := Lib.hid hown_w2
          have hz_w2 := hb2.size
          clear hown_w2 hgrow
          obtain ⟨ao2, co2, rfl, -, -⟩ := own_shape Hown2.out
          go_wp2
          exact ⟨⟨k + 1, N ++ [x], false, by omega, by go_num, rfl, HT.out, HL.out, by have := Hown2.out; simpa using this, hb2⟩, by simp [intOf]; omega⟩
      | true =>
        by_cases h2 : x = n
        · subst h2
          have d2 : (x != x) = false := bne_self_eq_false _
          have HT := Lib.hid (show (l.take (k + 1)).foldl (addStep x) ([], false) = (N, true) by rw [hst]; unfold addStep; rw [if_neg (fun h => by cases h.1), if_pos rfl])
          have HL := Lib.hid (show N.length ≤ k + 1 + 1 by omega)
          clear hst hln
          go_wp2
          exact ⟨⟨k + 1, N, true, by omega, by go_num, rfl, HT.out, HL.out, by have := Hown.out; simpa using this, hb⟩, by simp [intOf]; omega⟩
        · have d2 : (x != n) = true := by rw [bne_iff_ne]; exact h2
          have HT := Lib.hid (show (l.take (k + 1)).foldl (addStep n) ([], false) = (N ++ [x], true) by rw [hst]; unfold addStep; rw [if_neg (fun h => by cases h.1), if_neg h2])
          have HL := Lib.hid (show (N ++ [x]).length ≤ k + 1 + 1 by simp only [List.length_append, List.length_cons, List.length_nil]; omega)
          clear hst hln
          go_wp2_with (at_builtin; refine wpList_append_own _ rfl _ _ 96 rfl w.heap.size 3 i0 _ 1 8 Tryz.underlying96 Hi.out.1 Hi.out.2.1 Hi.out.2.2.1 Hi.out.2.2.2 rfl (by decide) _ _ _ rfl (Hown.out.alloc _) ⟨wr.heap.size, 0, none⟩ 1 1 [.int .i64 x] rfl rfl (World.news_of_block (cs := #[.int .i64 x]) (t := 3) (fr := (0, 0)) (heap_alloc_new _ _)) ?eq2 ?eq3 ?eq4 ?eq5 ?_)
          case eq2 => simp [Value.oneCell']
          case eq3 => unfold maxLen; (try simp only [List.length_append, List.length_cons, List.length_nil]); omega
          case eq4 => (try simp only [List.length_append, List.length_cons, List.length_nil]); omega
          case eq5 => (try simp); omega
          intro v_w2 w2 hown_w2 hgrow _
          have hb2 := (hb.alloc hbz (Obj.cells #[.int .i64 x] 3)).grown hgrow (by simp; omega) (fun g hg => (ownsRow_block Hown.out g hg).1)
          have Hown2 := Lib.hid hown_w2
          have hz_w2 := hb2.size
          clear hown_w2 hgrow
          obtain ⟨ao2, co2, rfl, -, -⟩ := own_shape Hown2.out
          go_wp2
          exact ⟨⟨k + 1, N ++ [x], true, by omega, by go_num, rfl, HT.out, HL.out, by have := Hown2.out; simpa using this, hb2⟩, by simp [intOf]; omega⟩
    · have hall : l.take k = l := List.take_of_length_le (by omega)
      rw [hall] at hN
      cases dn with
      | true =>
        have HN := Lib.hid (show addL l n = N by unfold addL; rw [hN, if_pos rfl])
        clear hN hall
        go_wp2
        go_ret
        exact ⟨_, rfl, by rw [HN.out]; exact IcsAt.own Hown.out, hb⟩
      | false =>
        have HN := Lib.hid (show addL l n = N ++ [n] by unfold addL; rw [hN, if_neg (show ¬ (N, false).2 = true from fun h => by cases h)])
        clear hN hall
        go_wp2_with (at_builtin; refine wpList_append_own _ rfl _ _ 96 rfl w.heap.size 3 i0 _ 1 8 Tryz.underlying96 Hi.out.1 Hi.out.2.1 Hi.out.2.2.1 Hi.out.2.2.2 rfl (by decide) _ _ _ rfl (Hown.out.alloc _) ⟨wr.heap.size, 0, none⟩ 1 1 [.int .i64 n] rfl rfl (World.news_of_block (cs := #[.int .i64 n]) (t := 3) (fr := (0, 0)) (heap_alloc_new _ _)) ?fq2 ?fq3 ?fq4 ?fq5 ?_)
        case fq2 => simp [Value.oneCell']
        case fq3 => unfold maxLen; (try simp only [List.length_append, List.length_cons, List.length_nil]); omega
        case fq4 => (try simp only [List.length_append, List.length_cons, List.length_nil]); omega
        case fq5 => (try simp); omega
        intro v_w2 w2 hown_w2 hgrow _
        have hb2 := (hb.alloc hbz (Obj.cells #[.int .i64 n] 3)).grown hgrow (by simp; omega) (fun g hg => (ownsRow_block Hown.out g hg).1)
        have Hown2 := Lib.hid hown_w2
        have hz_w2 := hb2.size
        clear hown_w2 hgrow
        obtain ⟨ao2, co2, rfl, -, -⟩ := own_shape Hown2.out
        go_wp2
        go_ret
        exact ⟨_, rfl, by rw [HN.out]; exact IcsAt.own (by have := Hown2.out; simpa using this), hb2⟩
end Go.Proofs.YtngippiilgdnoaaGreat

namespace Go.Proofs.YtngippiilgdnoaaGreat
open Go.RowKit

def amB (a : Int) : Bool := decide (-1125899906842624 ≤ a) && decide (a ≤ 1125899906842624)
theorem amB_iff (a : Int) : amB a = true ↔ -1125899906842624 ≤ a ∧ a ≤ 1125899906842624 := by unfold amB; simp
theorem amvalid_calls (a : Int) (w : World) : Calls Tryz.prog 121 #[.int .i64 a] w fun e w' => e = .returned (.bool (amB a)) ∧ Below w.heap.size w w' := by
  by_cases h1 : -1125899906842624 ≤ a
  · have k1 : decide (-1125899906842624 ≤ a) = true := decide_eq_true h1
    by_cases h2 : a ≤ 1125899906842624
    · have k2 : decide (a ≤ 1125899906842624) = true := decide_eq_true h2
      have H := Lib.hid (show true = amB a by unfold amB; rw [k1, k2]; rfl)
      go_enter Tryz.func121, Tryz.ntmps121
      go_wp2
      go_ret
      exact ⟨ret_bool H.out, by go_grown⟩
    · have k2 : decide (a ≤ 1125899906842624) = false := decide_eq_false h2
      have H := Lib.hid (show false = amB a by unfold amB; rw [k1, k2]; rfl)
      go_enter Tryz.func121, Tryz.ntmps121
      go_wp2
      go_ret
      exact ⟨ret_bool H.out, by go_grown⟩
  · have k1 : decide (-1125899906842624 ≤ a) = false := decide_eq_false h1
    have H := Lib.hid (show false = amB a by unfold amB; rw [k1]; rfl)
    go_enter Tryz.func121, Tryz.ntmps121
    go_wp2
    go_ret
    exact ⟨ret_bool H.out, by go_grown⟩
theorem ramvalid_calls (a : Int) (w : World) : Calls Tryz.prog 130 #[.int .i64 a] w fun e w' => e = .returned (.bool (amB a)) ∧ Below w.heap.size w w' := by
  by_cases h1 : -1125899906842624 ≤ a
  · have k1 : decide (-1125899906842624 ≤ a) = true := decide_eq_true h1
    by_cases h2 : a ≤ 1125899906842624
    · have k2 : decide (a ≤ 1125899906842624) = true := decide_eq_true h2
      have H := Lib.hid (show true = amB a by unfold amB; rw [k1, k2]; rfl)
      go_enter Tryz.func130, Tryz.ntmps130
      go_wp2
      go_ret
      exact ⟨ret_bool H.out, by go_grown⟩
    · have k2 : decide (a ≤ 1125899906842624) = false := decide_eq_false h2
      have H := Lib.hid (show false = amB a by unfold amB; rw [k1, k2]; rfl)
      go_enter Tryz.func130, Tryz.ntmps130
      go_wp2
      go_ret
      exact ⟨ret_bool H.out, by go_grown⟩
  · have k1 : decide (-1125899906842624 ≤ a) = false := decide_eq_false h1
    have H := Lib.hid (show false = amB a by unfold amB; rw [k1]; rfl)
    go_enter Tryz.func130, Tryz.ntmps130
    go_wp2
    go_ret
    exact ⟨ret_bool H.out, by go_grown⟩

end Go.Proofs.YtngippiilgdnoaaGreat

namespace Go.Proofs.YtngippiilgdnoaaGreat
open Go.RowKit

theorem div_step2 (n d Q R h b : Int) (inv : Q * d + R = n * h) (hb : b = 0 ∨ b = 1) (r1 : Int) (hr : r1 = 2 * R + b * n) :
    (2 * Q + r1 / d) * d + r1 % d = n * (2 * h + b) := by
  have e1 := Int.mul_ediv_add_emod r1 d
  rw [Int.add_mul, Int.mul_comm (r1 / d) d, Int.mul_add, Int.mul_assoc 2 Q d]
  have e3 : n * (2 * h) = 2 * (n * h) := by rw [← Int.mul_assoc, Int.mul_comm n 2, Int.mul_assoc]
  rw [e3]
  rcases hb with rfl | rfl
  · rw [Int.zero_mul] at hr
    rw [Int.mul_zero]
    omega
  · rw [Int.one_mul] at hr
    rw [Int.mul_one]
    omega

theorem below_drewN3 {B : Nat} {a w : World} (h : Below B a w) (n : Nat) : Below B a (w.drewN n) := ⟨h.os, h.tape, h.output, h.size, h.block⟩
/-- What the reference's division gives. -/
def DivTo2 (a n d : Int) (w : World) (e : Ending) (w' : World) : Prop := ∃ q r, e = .returned (.tuple #[.int .i64 q, .int .i64 r]) ∧ Below w.heap.size w w' ∧ 0 ≤ r ∧ r < d ∧ 0 ≤ q ∧ q ≤ 288230376151711744 ∧
  ((q = a * n / d ∧ r = a * n % d) ∨ (q = 288230376151711744 ∧ 288230376151711744 < a * n / d))

set_option maxRecDepth 100000 in
set_option maxHeartbeats 6400000 in
theorem rdivide_calls (a n d : Int) (w : World) (ha : 0 ≤ a) (ha2 : a ≤ 1125899906842624) (hn : 0 ≤ n) (hn2 : n ≤ 1099511627776) (hd : 1 ≤ d) (hd2 : d ≤ 1099511627776) :
    Calls Tryz.prog 131 #[.int .i64 a, .int .i64 n, .int .i64 d] w (DivTo2 a n d w) := by
  go_enter Tryz.func131, Tryz.ntmps131
  go_wp2_with fail
  go_loopw [8, 9, 10] (fun q r b wr => ∃ (m : Nat) (Q R : Int), m ≤ 51 ∧ b = .int .i64 ((m : Int) - 1) ∧ q = .int .i64 Q ∧ r = .int .i64 R ∧ 0 ≤ R ∧ R < d ∧ 0 ≤ Q ∧ Q ≤ 288230376151711744 ∧ (Q * d + R = n * (a / 2 ^ m) ∨ (Q = 288230376151711744 ∧ 288230376151711744 < a * n / d)) ∧ Below w.heap.size w wr) (fun _ _ b _ => ((intOf b) + 1).toNat)
  case atStart =>
    refine ⟨51, 0, 0, Nat.le_refl _, rfl, rfl, rfl, Int.le_refl _, by omega, Int.le_refl _, by omega, Or.inl ?_, Below.refl _ _⟩
    rw [Int.ediv_eq_zero_of_lt ha (by have : (2 : Int) ^ 51 = 2251799813685248 := by decide
                                      omega)]
    omega
  case round =>
    obtain ⟨m, Q, R, hm, rfl, rfl, rfl, hR, hR2, hQ, hQ2, hinv, hb⟩ := hrel
    have hd0 : ¬ d = 0 := by omega
    have w1 : IntKind.i64.wrap (2 * Q) = 2 * Q := IntWalk.i64_in _ (by omega)
    have w2 : IntKind.i64.wrap (2 * R) = 2 * R := IntWalk.i64_in _ (by omega)
    have Hinv := Lib.hid hinv
    clear hinv
    by_cases h0 : m = 0
    · subst h0
      have h := Hinv.out
      rw [Int.pow_zero, Int.ediv_one] at h
      have HE := Lib.hid (show (Q = a * n / d ∧ R = a * n % d) ∨ (Q = 288230376151711744 ∧ 288230376151711744 < a * n / d) from by
        rcases h with h | h
        · have := div_exact (n * a) d Q R (by omega) h hR hR2
          rw [Int.mul_comm n a] at this
          exact Or.inl ⟨this.1.symm, this.2.symm⟩
        · exact Or.inr h)
      clear h
      go_wp2
      go_ret2
      exact ⟨Q, R, rfl, hb, hR, hR2, hQ, hQ2, HE.out⟩
    · obtain ⟨k, rfl⟩ : ∃ k : Nat, m = k + 1 := ⟨m - 1, by omega⟩
      have hkk : ((k + 1 : Nat) : Int) - 1 = (k : Int) := by omega
      rw [hkk]
      have hk0 : (0 : Int) ≤ (k : Int) := Int.natCast_nonneg _
      have hk63 : k ≤ 50 := by omega
      have hh := pow_le a k ha
      have Hbit := Lib.hid (bit_and (a / 2 ^ k) hh.1 (by omega))
      have Hhalf := Lib.hid (half_pow a k)
      have hbb : (a / 2 ^ k) % 2 = 0 ∨ (a / 2 ^ k) % 2 = 1 := by omega
      have wu : IntKind.u64.wrap (k : Int) = (k : Int) := by simp [IntKind.wrap, IntKind.bits, IntKind.signed]; omega
      clear h0 hkk hm
      rcases hbb with hbb | hbb
      · have hbit : (bits BinOp.and IntKind.i64 (a / 2 ^ k) 1 == 1) = false := by rw [Hbit.out, hbb]; rfl
        have HS := Lib.hid (show (2 * Q + (2 * R) / d) * d + (2 * R) % d = n * (a / 2 ^ k) ∨ (Q = 288230376151711744 ∧ 288230376151711744 < a * n / d) from by
          rcases Hinv.out with h | h
          · have := div_step2 n d Q R (a / 2 ^ (k + 1)) 0 h (Or.inl rfl) (2 * R) (by omega)
            rw [show 2 * (a / 2 ^ (k + 1)) + 0 = a / 2 ^ k by rw [Hhalf.out]; omega] at this
            exact Or.inl this
          · exact Or.inr h)
        have HH := Lib.hid hh
        have hr0 : 0 ≤ (2 * R) / d := Int.ediv_nonneg (by omega) (by omega)
        have hr1 : (2 * R) / d ≤ 2 * R := Int.ediv_le_self _ (by omega)
        have hs0 : 0 ≤ (2 * R) % d := Int.emod_nonneg _ (by omega)
        have hs1 : (2 * R) % d < d := Int.emod_lt_of_pos _ (by omega)
        have hp0 : 0 ≤ 2 * R := by omega
        have w3 : IntKind.i64.wrap (2 * Q + (2 * R) / d) = 2 * Q + (2 * R) / d := IntWalk.i64_in _ (by omega)
        clear hbb hh
        by_cases hx : 288230376151711744 < 2 * Q + (2 * R) / d
        · have HX := Lib.hid (show 288230376151711744 < a * n / d from by
            rcases HS.out with h1 | h1
            · have h2 := HH.out
              have h3 : n * (a / 2 ^ k) ≤ n * a := Int.mul_le_mul_of_nonneg_left h2.2 hn
              have h4 : 288230376151711745 * d ≤ (2 * Q + (2 * R) / d) * d := Int.mul_le_mul_of_nonneg_right (by omega) (by omega)
              have h6 := Int.mul_comm n a
              have h5 : 288230376151711745 ≤ a * n / d := (Int.le_ediv_iff_mul_le (by omega)).2 (by omega)
              omega
            · exact h1.2)
          go_wp2_with fail
          go_big_quiet (fail)
          go_wp2
          exact ⟨⟨k, _, _, by omega, rfl, rfl, rfl, hs0, hs1, by omega, by omega, Or.inr ⟨rfl, HX.out⟩, below_drewN3 hb _⟩, by simp [intOf]⟩
        · have HX := Lib.hid (show (2 * Q + (2 * R) / d) * d + (2 * R) % d = n * (a / 2 ^ k) from by
            rcases HS.out with h1 | h1
            · exact h1
            · omega)
          go_wp2_with fail
          go_big_quiet (fail)
          go_wp2
          exact ⟨⟨k, _, _, by omega, rfl, rfl, rfl, hs0, hs1, by omega, by omega, Or.inl HX.out, below_drewN3 hb _⟩, by simp [intOf]⟩
      · have hbit : (bits BinOp.and IntKind.i64 (a / 2 ^ k) 1 == 1) = true := by rw [Hbit.out, hbb]; rfl
        have HS := Lib.hid (show (2 * Q + (2 * R + n) / d) * d + (2 * R + n) % d = n * (a / 2 ^ k) ∨ (Q = 288230376151711744 ∧ 288230376151711744 < a * n / d) from by
          rcases Hinv.out with h | h
          · have := div_step2 n d Q R (a / 2 ^ (k + 1)) 1 h (Or.inr rfl) (2 * R + n) (by omega)
            rw [show 2 * (a / 2 ^ (k + 1)) + 1 = a / 2 ^ k by rw [Hhalf.out]; omega] at this
            exact Or.inl this
          · exact Or.inr h)
        have HH := Lib.hid hh
        have hr0 : 0 ≤ (2 * R + n) / d := Int.ediv_nonneg (by omega) (by omega)
        have hr1 : (2 * R + n) / d ≤ 2 * R + n := Int.ediv_le_self _ (by omega)
        have hs0 : 0 ≤ (2 * R + n) % d := Int.emod_nonneg _ (by omega)
        have hs1 : (2 * R + n) % d < d := Int.emod_lt_of_pos _ (by omega)
        have hp0 : 0 ≤ 2 * R + n := by omega
        have w5 : IntKind.i64.wrap (2 * R + n) = 2 * R + n := IntWalk.i64_in _ (by omega)
        have w3 : IntKind.i64.wrap (2 * Q + (2 * R + n) / d) = 2 * Q + (2 * R + n) / d := IntWalk.i64_in _ (by omega)
        clear hbb hh
        by_cases hx : 288230376151711744 < 2 * Q + (2 * R + n) / d
        · have HX := Lib.hid (show 288230376151711744 < a * n / d from by
            rcases HS.out with h1 | h1
            · have h2 := HH.out
              have h3 : n * (a / 2 ^ k) ≤ n * a := Int.mul_le_mul_of_nonneg_left h2.2 hn
              have h4 : 288230376151711745 * d ≤ (2 * Q + (2 * R + n) / d) * d := Int.mul_le_mul_of_nonneg_right (by omega) (by omega)
              have h6 := Int.mul_comm n a
              have h5 : 288230376151711745 ≤ a * n / d := (Int.le_ediv_iff_mul_le (by omega)).2 (by omega)
              omega
            · exact h1.2)
          go_wp2_with fail
          go_big_quiet (fail)
          go_wp2
          exact ⟨⟨k, _, _, by omega, rfl, rfl, rfl, hs0, hs1, by omega, by omega, Or.inr ⟨rfl, HX.out⟩, below_drewN3 hb _⟩, by simp [intOf]⟩
        · have HX := Lib.hid (show (2 * Q + (2 * R + n) / d) * d + (2 * R + n) % d = n * (a / 2 ^ k) from by
            rcases HS.out with h1 | h1
            · exact h1
            · omega)
          go_wp2_with fail
          go_big_quiet (fail)
          go_wp2
          exact ⟨⟨k, _, _, by omega, rfl, rfl, rfl, hs0, hs1, by omega, by omega, Or.inl HX.out, below_drewN3 hb _⟩, by simp [intOf]⟩
end Go.Proofs.YtngippiilgdnoaaGreat

namespace Go.Proofs.YtngippiilgdnoaaGreat
open Go.RowKit

def absI (a : Int) : Int := if a < 0 then -a else a
theorem absI_nonneg (a : Int) : 0 ≤ absI a := by unfold absI; split <;> omega
def scR (a n d : Int) : Int := if d ≤ 2 * (absI a * n % d) then absI a * n / d + 1 else absI a * n / d
def scOk (a n d : Int) : Bool := amB a && decide (0 ≤ n) && decide (n ≤ 1099511627776) && decide (1 ≤ d) && decide (d ≤ 1099511627776)
theorem scOk_iff (a n d : Int) : scOk a n d = true ↔ amB a = true ∧ 0 ≤ n ∧ n ≤ 1099511627776 ∧ 1 ≤ d ∧ d ≤ 1099511627776 := by
  unfold scOk; simp [and_assoc]
/-- What Scale gives: an amount and whether there is an error. -/
def scaleV (a n d : Int) : Int × Int := if scOk a n d = true then (if scR a n d ≤ 1125899906842624 then (if a < 0 then - scR a n d else scR a n d, 0) else (0, 6)) else (0, 6)
def pairT (x : Int × Int) : Value := .tuple #[.int .i64 x.1, .int .i64 x.2]

theorem checked_calls (a : Int) (w : World) : Calls Tryz.prog 123 #[.int .i64 a] w fun e w' => e = .returned (pairT (if amB a = true then (a, 0) else (0, 6))) ∧ Below w.heap.size w w' := by
  have H := Lib.hid (amvalid_calls a w)
  cases h : amB a with
  | true =>
    rw [h] at H
    rw [if_pos rfl]
    clear h
    go_enter Tryz.func123, Tryz.ntmps123
    go_wp2_with fail
    refine H.out.mono ?_
    rintro e w1 ⟨rfl, hb⟩
    go_wp2
    go_ret2
    exact ⟨rfl, hb⟩
  | false =>
    rw [h] at H
    rw [if_neg (by decide)]
    clear h
    go_enter Tryz.func123, Tryz.ntmps123
    go_wp2_with fail
    refine H.out.mono ?_
    rintro e w1 ⟨rfl, hb⟩
    go_wp2
    go_ret2
    exact ⟨rfl, hb⟩

theorem scale_no (a n d : Int) (h : scOk a n d = false) : scaleV a n d = (0, 6) := by unfold scaleV; rw [if_neg (by rw [h]; decide)]
theorem scOk_no {a n d : Int} (h : ¬ (amB a = true ∧ 0 ≤ n ∧ n ≤ 1099511627776 ∧ 1 ≤ d ∧ d ≤ 1099511627776)) : scOk a n d = false := by
  cases e : scOk a n d with
  | false => rfl
  | true => exact absurd ((scOk_iff a n d).1 e) h
/-- The end of Scale: the sign and the check of what was rounded. -/
theorem scale_end (a n d q : Int) (h : scOk a n d = true) (hq : 0 ≤ q) (hr : q = scR a n d ∨ (1125899906842624 < q ∧ 1125899906842624 < scR a n d)) :
    (if amB (if a < 0 then -q else q) = true then ((if a < 0 then -q else q), (0 : Int)) else (0, 6)) = scaleV a n d := by
  unfold scaleV
  rw [if_pos h]
  rcases hr with rfl | ⟨h1, h2⟩
  · by_cases hc : scR a n d ≤ 1125899906842624
    · rw [if_pos hc, if_pos ((amB_iff _).2 (by split <;> omega))]
    · rw [if_neg hc, if_neg (fun h => by have := (amB_iff _).1 h; split at this <;> omega)]
  · rw [if_neg (show ¬ scR a n d ≤ 1125899906842624 by omega), if_neg (fun h => by have := (amB_iff _).1 h; split at this <;> omega)]

set_option maxRecDepth 100000 in
set_option maxHeartbeats 6400000 in
theorem scale_calls (a n d : Int) (w : World) : Calls Tryz.prog 74 #[.int .i64 a, .int .i64 n, .int .i64 d] w fun e w' => e = .returned (pairT (scaleV a n d)) ∧ Below w.heap.size w w' := by
  have H := Lib.hid (amvalid_calls a w)
  cases hv : amB a with
  | false =>
    rw [hv] at H
    rw [scale_no a n d (scOk_no (fun h => by rw [hv] at h; cases h.1))]
    clear hv
    go_enter Tryz.func74, Tryz.ntmps74
    go_wp2_with fail
    refine H.out.mono ?_
    rintro e w1 ⟨rfl, hb⟩
    go_wp2
    go_ret2
    exact ⟨rfl, hb⟩
  | true =>
    rw [hv] at H
    have hav := (amB_iff a).1 hv
    by_cases h1 : 0 ≤ n ∧ n ≤ 1099511627776 ∧ 1 ≤ d ∧ d ≤ 1099511627776
    · have hok : scOk a n d = true := (scOk_iff a n d).2 ⟨hv, h1⟩
      have HE := Lib.hid (fun q hq hr => scale_end a n d q hok hq hr)
      obtain ⟨h2, h3, h4, h5⟩ := h1
      have k1 : decide (n < 0) = false := decide_eq_false (by omega)
      have k2 : decide (1099511627776 < n) = false := decide_eq_false (by omega)
      have k3 : decide (d < 1) = false := decide_eq_false (by omega)
      have k4 : decide (1099511627776 < d) = false := decide_eq_false (by omega)
      have HD := Lib.hid (fun w1 => divide_calls (absI a) n d w1 (absI_nonneg a) (by unfold absI; split <;> omega) h2 h3 h4 h5)
      have HR := Lib.hid (show scR a n d = if d ≤ 2 * (absI a * n % d) then absI a * n / d + 1 else absI a * n / d from rfl)
      have hq0 : 0 ≤ absI a * n / d := Int.ediv_nonneg (Int.mul_nonneg (absI_nonneg a) h2) (by omega)
      have hr0 : 0 ≤ absI a * n % d := Int.emod_nonneg _ (by omega)
      have hr1 : absI a * n % d < d := Int.emod_lt_of_pos _ (by omega)
      generalize scaleV a n d = V at *
      generalize scR a n d = T at *
      clear hok hv
      by_cases hs : a < 0
      · have s1 : absI a = -a := by unfold absI; rw [if_pos hs]
        have s2 : IntKind.i64.wrap (-a) = -a := IntWalk.i64_in _ (by omega)
        have s4 : decide (a < 0) = true := decide_eq_true hs
        rw [s1] at HD HR hq0 hr0 hr1
        clear s1
        have s3 : a < -a := by omega
        go_enter Tryz.func74, Tryz.ntmps74
        go_wp2_with fail
        refine H.out.mono ?_
        rintro e w1 ⟨rfl, hb⟩
        go_wp2_with fail
        refine (HD.out w1).mono ?_
        rintro e w2 ⟨q, r, rfl, hb2, hres⟩
        rcases hres with ⟨h1, h2, h3⟩ | ⟨h1, h2, rfl, h3⟩
        · by_cases hup : d ≤ 2 * r
          · have hq0 : 0 ≤ q := by omega
            have hr0 : 0 ≤ r := by omega
            have hr1 : r < d := by omega
            have H1 := Lib.hid h1
            have H2 := Lib.hid h2
            clear h1 h2
            have w3 : IntKind.i64.wrap (d - r) = d - r := IntWalk.i64_in _ (by omega)
            have k5 : decide (d - r ≤ r) = true := decide_eq_true (by omega)
            have w4 : IntKind.i64.wrap (q + 1) = q + 1 := IntWalk.i64_in _ (by omega)
            have w5 : IntKind.i64.wrap (-(q + 1)) = -(q + 1) := IntWalk.i64_in _ (by omega)
            have HF := Lib.hid (HE.out (q + 1) (by omega) (Or.inl (by rw [HR.out, if_pos (by rw [← H2.out]; omega), H1.out])))
            rw [if_pos hs] at HF
            have HC := Lib.hid (show ∀ w1, Calls Tryz.prog 123 #[.int .i64 (-(q + 1))] w1 fun e w' => e = .returned (.tuple #[.int .i64 V.1, .int .i64 V.2]) ∧ Below w1.heap.size w1 w' from fun w1 => by
              have h := checked_calls (-(q + 1)) w1
              rw [HF.out] at h
              exact h)
            go_wp2_with fail
            refine (HC.out w2).mono ?_
            rintro e w3 ⟨rfl, hb3⟩
            go_wp2
            go_ret2
            exact ⟨rfl, (hb.trans (hb2.mono hb.size)).trans (hb3.mono (Nat.le_trans hb.size hb2.size))⟩
          · have hq0 : 0 ≤ q := by omega
            have hr0 : 0 ≤ r := by omega
            have hr1 : r < d := by omega
            have H1 := Lib.hid h1
            have H2 := Lib.hid h2
            clear h1 h2
            have w3 : IntKind.i64.wrap (d - r) = d - r := IntWalk.i64_in _ (by omega)
            have k5 : decide (d - r ≤ r) = false := decide_eq_false (by omega)
            have w5 : IntKind.i64.wrap (-(q)) = -(q) := IntWalk.i64_in _ (by omega)
            have HF := Lib.hid (HE.out (q) (by omega) (Or.inl (by rw [HR.out, if_neg (by rw [← H2.out]; omega), H1.out])))
            rw [if_pos hs] at HF
            have HC := Lib.hid (show ∀ w1, Calls Tryz.prog 123 #[.int .i64 (-(q))] w1 fun e w' => e = .returned (.tuple #[.int .i64 V.1, .int .i64 V.2]) ∧ Below w1.heap.size w1 w' from fun w1 => by
              have h := checked_calls (-(q)) w1
              rw [HF.out] at h
              exact h)
            go_wp2_with fail
            refine (HC.out w2).mono ?_
            rintro e w3 ⟨rfl, hb3⟩
            go_wp2
            go_ret2
            exact ⟨rfl, (hb.trans (hb2.mono hb.size)).trans (hb3.mono (Nat.le_trans hb.size hb2.size))⟩
        · have hbig : 1125899906842624 < T := by rw [HR.out]; split <;> omega
          have r0 : (0 : Int) < d := by omega
          have w3 : IntKind.i64.wrap (d - 0) = d - 0 := IntWalk.i64_in _ (by omega)
          have k5 : decide (d - 0 ≤ 0) = false := decide_eq_false (by omega)
          have w5 : IntKind.i64.wrap (-(q)) = -(q) := IntWalk.i64_in _ (by omega)
          have HF := Lib.hid (HE.out (q) (by omega) (Or.inr ⟨by omega, hbig⟩))
          rw [if_pos hs] at HF
          have HC := Lib.hid (show ∀ w1, Calls Tryz.prog 123 #[.int .i64 (-(q))] w1 fun e w' => e = .returned (.tuple #[.int .i64 V.1, .int .i64 V.2]) ∧ Below w1.heap.size w1 w' from fun w1 => by
            have h := checked_calls (-(q)) w1
            rw [HF.out] at h
            exact h)
          go_wp2_with fail
          refine (HC.out w2).mono ?_
          rintro e w3 ⟨rfl, hb3⟩
          go_wp2
          go_ret2
          exact ⟨rfl, (hb.trans (hb2.mono hb.size)).trans (hb3.mono (Nat.le_trans hb.size hb2.size))⟩
      · have s1 : absI a = a := by unfold absI; rw [if_neg hs]
        have s2 : IntKind.i64.wrap (-a) = -a := IntWalk.i64_in _ (by omega)
        have s4 : decide (a < 0) = false := decide_eq_false hs
        rw [s1] at HD HR hq0 hr0 hr1
        clear s1
        have s3 : ¬ a < -a := by omega
        go_enter Tryz.func74, Tryz.ntmps74
        go_wp2_with fail
        refine H.out.mono ?_
        rintro e w1 ⟨rfl, hb⟩
        go_wp2_with fail
        refine (HD.out w1).mono ?_
        rintro e w2 ⟨q, r, rfl, hb2, hres⟩
        rcases hres with ⟨h1, h2, h3⟩ | ⟨h1, h2, rfl, h3⟩
        · by_cases hup : d ≤ 2 * r
          · have hq0 : 0 ≤ q := by omega
            have hr0 : 0 ≤ r := by omega
            have hr1 : r < d := by omega
            have H1 := Lib.hid h1
            have H2 := Lib.hid h2
            clear h1 h2
            have w3 : IntKind.i64.wrap (d - r) = d - r := IntWalk.i64_in _ (by omega)
            have k5 : decide (d - r ≤ r) = true := decide_eq_true (by omega)
            have w4 : IntKind.i64.wrap (q + 1) = q + 1 := IntWalk.i64_in _ (by omega)
            have HF := Lib.hid (HE.out (q + 1) (by omega) (Or.inl (by rw [HR.out, if_pos (by rw [← H2.out]; omega), H1.out])))
            rw [if_neg (show ¬ a < 0 by omega)] at HF
            have HC := Lib.hid (show ∀ w1, Calls Tryz.prog 123 #[.int .i64 (q + 1)] w1 fun e w' => e = .returned (.tuple #[.int .i64 V.1, .int .i64 V.2]) ∧ Below w1.heap.size w1 w' from fun w1 => by
              have h := checked_calls (q + 1) w1
              rw [HF.out] at h
              exact h)
            go_wp2_with fail
            refine (HC.out w2).mono ?_
            rintro e w3 ⟨rfl, hb3⟩
            go_wp2
            go_ret2
            exact ⟨rfl, (hb.trans (hb2.mono hb.size)).trans (hb3.mono (Nat.le_trans hb.size hb2.size))⟩
          · have hq0 : 0 ≤ q := by omega
            have hr0 : 0 ≤ r := by omega
            have hr1 : r < d := by omega
            have H1 := Lib.hid h1
            have H2 := Lib.hid h2
            clear h1 h2
            have w3 : IntKind.i64.wrap (d - r) = d - r := IntWalk.i64_in _ (by omega)
            have k5 : decide (d - r ≤ r) = false := decide_eq_false (by omega)
            have HF := Lib.hid (HE.out (q) (by omega) (Or.inl (by rw [HR.out, if_neg (by rw [← H2.out]; omega), H1.out])))
            rw [if_neg (show ¬ a < 0 by omega)] at HF
            have HC := Lib.hid (show ∀ w1, Calls Tryz.prog 123 #[.int .i64 (q)] w1 fun e w' => e = .returned (.tuple #[.int .i64 V.1, .int .i64 V.2]) ∧ Below w1.heap.size w1 w' from fun w1 => by
              have h := checked_calls (q) w1
              rw [HF.out] at h
              exact h)
            go_wp2_with fail
            refine (HC.out w2).mono ?_
            rintro e w3 ⟨rfl, hb3⟩
            go_wp2
            go_ret2
            exact ⟨rfl, (hb.trans (hb2.mono hb.size)).trans (hb3.mono (Nat.le_trans hb.size hb2.size))⟩
        · have hbig : 1125899906842624 < T := by rw [HR.out]; split <;> omega
          have r0 : (0 : Int) < d := by omega
          have w3 : IntKind.i64.wrap (d - 0) = d - 0 := IntWalk.i64_in _ (by omega)
          have k5 : decide (d - 0 ≤ 0) = false := decide_eq_false (by omega)
          have HF := Lib.hid (HE.out (q) (by omega) (Or.inr ⟨by omega, hbig⟩))
          rw [if_neg (show ¬ a < 0 by omega)] at HF
          have HC := Lib.hid (show ∀ w1, Calls Tryz.prog 123 #[.int .i64 (q)] w1 fun e w' => e = .returned (.tuple #[.int .i64 V.1, .int .i64 V.2]) ∧ Below w1.heap.size w1 w' from fun w1 => by
            have h := checked_calls (q) w1
            rw [HF.out] at h
            exact h)
          go_wp2_with fail
          refine (HC.out w2).mono ?_
          rintro e w3 ⟨rfl, hb3⟩
          go_wp2
          go_ret2
          exact ⟨rfl, (hb.trans (hb2.mono hb.size)).trans (hb3.mono (Nat.le_trans hb.size hb2.size))⟩
    · rw [scale_no a n d (scOk_no (fun h => h1 h.2))]
      clear hv
      by_cases h2 : n < 0
      · have k1 : decide (n < 0) = true := decide_eq_true h2
        go_enter Tryz.func74, Tryz.ntmps74
        go_wp2_with fail
        refine H.out.mono ?_
        rintro e w1 ⟨rfl, hb⟩
        go_wp2
        go_ret2
        exact ⟨rfl, hb⟩
      · have k1 : decide (n < 0) = false := decide_eq_false h2
        by_cases h3 : 1099511627776 < n
        · have k2 : decide (1099511627776 < n) = true := decide_eq_true h3
          go_enter Tryz.func74, Tryz.ntmps74
          go_wp2_with fail
          refine H.out.mono ?_
          rintro e w1 ⟨rfl, hb⟩
          go_wp2
          go_ret2
          exact ⟨rfl, hb⟩
        · have k2 : decide (1099511627776 < n) = false := decide_eq_false h3
          by_cases h4 : d < 1
          · have k3 : decide (d < 1) = true := decide_eq_true h4
            go_enter Tryz.func74, Tryz.ntmps74
            go_wp2_with fail
            refine H.out.mono ?_
            rintro e w1 ⟨rfl, hb⟩
            go_wp2
            go_ret2
            exact ⟨rfl, hb⟩
          · have k3 : decide (d < 1) = false := decide_eq_false h4
            have k4 : decide (1099511627776 < d) = true := decide_eq_true (by omega)
            go_enter Tryz.func74, Tryz.ntmps74
            go_wp2_with fail
            refine H.out.mono ?_
            rintro e w1 ⟨rfl, hb⟩
            go_wp2
            go_ret2
            exact ⟨rfl, hb⟩
end Go.Proofs.YtngippiilgdnoaaGreat

namespace Go.Proofs.YtngippiilgdnoaaGreat
open Go.RowKit

set_option maxRecDepth 100000 in
set_option maxHeartbeats 6400000 in
theorem rscale_pos (a n d : Int) (w : World) (h0 : 0 ≤ a) : Calls Tryz.prog 78 #[.int .i64 a, .int .i64 n, .int .i64 d] w fun e w' => e = .returned (pairT (scaleV a n d)) ∧ Below w.heap.size w w' := by
  have H := Lib.hid (ramvalid_calls a w)
  have hneg : decide (a < 0) = false := decide_eq_false (by omega)
  have hneg2 : ¬ a < 0 := by omega
  cases hv : amB a with
  | false =>
    rw [hv] at H
    rw [scale_no a n d (scOk_no (fun h => by rw [hv] at h; cases h.1))]
    clear hv
    go_enter Tryz.func78, Tryz.ntmps78
    go_wp2_with fail
    refine H.out.mono ?_
    rintro e w1 ⟨rfl, hb⟩
    go_wp2
    go_ret2
    exact ⟨rfl, hb⟩
  | true =>
    rw [hv] at H
    have hav := (amB_iff a).1 hv
    by_cases h1 : 0 ≤ n ∧ n ≤ 1099511627776 ∧ 1 ≤ d ∧ d ≤ 1099511627776
    · have hok : scOk a n d = true := (scOk_iff a n d).2 ⟨hv, h1⟩
      have HE := Lib.hid (fun q hq hr => scale_end a n d q hok hq hr)
      obtain ⟨h2, h3, h4, h5⟩ := h1
      have k1 : decide (n < 0) = false := decide_eq_false (by omega)
      have k2 : decide (1099511627776 < n) = false := decide_eq_false (by omega)
      have k3 : decide (d < 1) = false := decide_eq_false (by omega)
      have k4 : decide (1099511627776 < d) = false := decide_eq_false (by omega)
      have HD := Lib.hid (fun w1 => rdivide_calls a n d w1 h0 (by omega) h2 h3 h4 h5)
      have HR := Lib.hid (show scR a n d = if d ≤ 2 * (absI a * n % d) then absI a * n / d + 1 else absI a * n / d from rfl)
      have s1 : absI a = a := by unfold absI; rw [if_neg hneg2]
      rw [s1] at HR
      generalize scaleV a n d = V at *
      generalize scR a n d = T at *
      clear hok hv s1
      go_enter Tryz.func78, Tryz.ntmps78
      go_wp2_with fail
      refine H.out.mono ?_
      rintro e w1 ⟨rfl, hb⟩
      go_wp2_with fail
      refine (HD.out w1).mono ?_
      rintro e w2 ⟨q, r, rfl, hb2, hr0, hr1, hq0, hq1, hres⟩
      have HRes := Lib.hid hres
      clear hres
      have w3 : IntKind.i64.wrap (2 * r) = 2 * r := IntWalk.i64_in _ (by omega)
      by_cases hup : d ≤ 2 * r
      · have k5 : decide (d ≤ 2 * r) = true := decide_eq_true hup
        have w4 : IntKind.i64.wrap (q + 1) = q + 1 := IntWalk.i64_in _ (by omega)
        have HF := Lib.hid (HE.out (q + 1) (by omega) (by
          rcases HRes.out with ⟨e1, e2⟩ | ⟨e1, e2⟩
          · exact Or.inl (by rw [HR.out, if_pos (by rw [← e2]; exact hup), e1])
          · exact Or.inr ⟨by omega, by rw [HR.out]; split <;> omega⟩))
        rw [if_neg (show ¬ a < 0 by omega)] at HF
        have HV := Lib.hid (fun w1 => ramvalid_calls (q + 1) w1)
        cases hq : amB (q + 1) with
        | true =>
          rw [hq] at HV HF
          rw [if_pos rfl] at HF
          clear hq
          go_wp2_with fail
          refine (HV.out w2).mono ?_
          rintro e w3 ⟨rfl, hb3⟩
          go_wp2
          go_ret2
          rw [← HF.out]
          exact ⟨rfl, (hb.trans (hb2.mono hb.size)).trans (hb3.mono (Nat.le_trans hb.size hb2.size))⟩
        | false =>
          rw [hq] at HV HF
          rw [if_neg (by decide)] at HF
          clear hq
          go_wp2_with fail
          refine (HV.out w2).mono ?_
          rintro e w3 ⟨rfl, hb3⟩
          go_wp2
          go_ret2
          rw [← HF.out]
          exact ⟨rfl, (hb.trans (hb2.mono hb.size)).trans (hb3.mono (Nat.le_trans hb.size hb2.size))⟩
      · have k5 : decide (d ≤ 2 * r) = false := decide_eq_false hup
        have HF := Lib.hid (HE.out (q) (by omega) (by
          rcases HRes.out with ⟨e1, e2⟩ | ⟨e1, e2⟩
          · exact Or.inl (by rw [HR.out, if_neg (by rw [← e2]; exact hup), e1])
          · exact Or.inr ⟨by omega, by rw [HR.out]; split <;> omega⟩))
        rw [if_neg (show ¬ a < 0 by omega)] at HF
        have HV := Lib.hid (fun w1 => ramvalid_calls (q) w1)
        cases hq : amB (q) with
        | true =>
          rw [hq] at HV HF
          rw [if_pos rfl] at HF
          clear hq
          go_wp2_with fail
          refine (HV.out w2).mono ?_
          rintro e w3 ⟨rfl, hb3⟩
          go_wp2
          go_ret2
          rw [← HF.out]
          exact ⟨rfl, (hb.trans (hb2.mono hb.size)).trans (hb3.mono (Nat.le_trans hb.size hb2.size))⟩
        | false =>
          rw [hq] at HV HF
          rw [if_neg (by decide)] at HF
          clear hq
          go_wp2_with fail
          refine (HV.out w2).mono ?_
          rintro e w3 ⟨rfl, hb3⟩
          go_wp2
          go_ret2
          rw [← HF.out]
          exact ⟨rfl, (hb.trans (hb2.mono hb.size)).trans (hb3.mono (Nat.le_trans hb.size hb2.size))⟩
    · rw [scale_no a n d (scOk_no (fun h => h1 h.2))]
      clear hv
      by_cases h2 : n < 0
      · have k1 : decide (n < 0) = true := decide_eq_true h2
        go_enter Tryz.func78, Tryz.ntmps78
        go_wp2_with fail
        refine H.out.mono ?_
        rintro e w1 ⟨rfl, hb⟩
        go_wp2
        go_ret2
        exact ⟨rfl, hb⟩
      · have k1 : decide (n < 0) = false := decide_eq_false h2
        by_cases h3 : 1099511627776 < n
        · have k2 : decide (1099511627776 < n) = true := decide_eq_true h3
          go_enter Tryz.func78, Tryz.ntmps78
          go_wp2_with fail
          refine H.out.mono ?_
          rintro e w1 ⟨rfl, hb⟩
          go_wp2
          go_ret2
          exact ⟨rfl, hb⟩
        · have k2 : decide (1099511627776 < n) = false := decide_eq_false h3
          by_cases h4 : d < 1
          · have k3 : decide (d < 1) = true := decide_eq_true h4
            go_enter Tryz.func78, Tryz.ntmps78
            go_wp2_with fail
            refine H.out.mono ?_
            rintro e w1 ⟨rfl, hb⟩
            go_wp2
            go_ret2
            exact ⟨rfl, hb⟩
          · have k3 : decide (d < 1) = false := decide_eq_false h4
            have k4 : decide (1099511627776 < d) = true := decide_eq_true (by omega)
            go_enter Tryz.func78, Tryz.ntmps78
            go_wp2_with fail
            refine H.out.mono ?_
            rintro e w1 ⟨rfl, hb⟩
            go_wp2
            go_ret2
            exact ⟨rfl, hb⟩

theorem scale_neg (a n d : Int) (h : a < 0) : scaleV a n d = (-(scaleV (-a) n d).1, (scaleV (-a) n d).2) := by
  have e1 : amB (-a) = amB a := by
    rw [Bool.eq_iff_iff, amB_iff, amB_iff]; omega
  have e2 : absI (-a) = absI a := by unfold absI; rw [if_pos h, if_neg (by omega)]
  have e3 : scOk (-a) n d = scOk a n d := by unfold scOk; rw [e1]
  have e4 : scR (-a) n d = scR a n d := by unfold scR; rw [e2]
  unfold scaleV
  rw [e3, e4, if_pos h, if_neg (show ¬ -a < 0 by omega)]
  split
  · split
    · rfl
    · rfl
  · rfl
theorem scale_abs (a n d : Int) : -2251799813685248 ≤ (scaleV a n d).1 ∧ (scaleV a n d).1 ≤ 2251799813685248 := by
  unfold scaleV
  split
  · rename_i hok
    have h := (scOk_iff a n d).1 hok
    have h1 : 0 ≤ absI a * n / d := Int.ediv_nonneg (Int.mul_nonneg (absI_nonneg a) h.2.1) (by omega)
    have h2 : 0 ≤ scR a n d := by unfold scR; split <;> omega
    split
    · dsimp only; split <;> omega
    · exact ⟨by decide, by decide⟩
  · exact ⟨by decide, by decide⟩

set_option maxRecDepth 100000 in
set_option maxHeartbeats 6400000 in
theorem rscale_calls (a n d : Int) (w : World) : Calls Tryz.prog 78 #[.int .i64 a, .int .i64 n, .int .i64 d] w fun e w' => e = .returned (pairT (scaleV a n d)) ∧ Below w.heap.size w w' := by
  by_cases hs : a < 0
  · have hneg : decide (a < 0) = true := decide_eq_true hs
    have H := Lib.hid (ramvalid_calls a w)
    cases hv : amB a with
    | false =>
      rw [hv] at H
      rw [scale_no a n d (scOk_no (fun h => by rw [hv] at h; cases h.1))]
      clear hv
      go_enter Tryz.func78, Tryz.ntmps78
      go_wp2_with fail
      refine H.out.mono ?_
      rintro e w1 ⟨rfl, hb⟩
      go_wp2
      go_ret2
      exact ⟨rfl, hb⟩
    | true =>
      rw [hv] at H
      have hav := (amB_iff a).1 hv
      by_cases h1 : 0 ≤ n ∧ n ≤ 1099511627776 ∧ 1 ≤ d ∧ d ≤ 1099511627776
      · obtain ⟨h2, h3, h4, h5⟩ := h1
        have k1 : decide (n < 0) = false := decide_eq_false (by omega)
        have k2 : decide (1099511627776 < n) = false := decide_eq_false (by omega)
        have k3 : decide (d < 1) = false := decide_eq_false (by omega)
        have k4 : decide (1099511627776 < d) = false := decide_eq_false (by omega)
        have s2 : IntKind.i64.wrap (-a) = -a := IntWalk.i64_in _ (by omega)
        have HP := Lib.hid (fun w1 => rscale_pos (-a) n d w1 (by omega))
        have HN := Lib.hid (scale_neg a n d hs)
        have hb1 := scale_abs (-a) n d
        generalize scaleV (-a) n d = V at *
        obtain ⟨x, y⟩ := V
        dsimp only at hb1
        have s3 : IntKind.i64.wrap (-x) = -x := IntWalk.i64_in _ (by omega)
        have HP := Lib.hid (show ∀ w1, Calls Tryz.prog 78 #[.int .i64 (-a), .int .i64 n, .int .i64 d] w1 fun e w' => e = .returned (.tuple #[.int .i64 x, .int .i64 y]) ∧ Below w1.heap.size w1 w' from HP.out)
        clear hv
        go_enter Tryz.func78, Tryz.ntmps78
        go_wp2_with fail
        refine H.out.mono ?_
        rintro e w1 ⟨rfl, hb⟩
        go_wp2_with fail
        refine (HP.out w1).mono ?_
        rintro e w2 ⟨rfl, hb2⟩
        go_wp2
        go_ret2
        rw [HN.out]
        exact ⟨rfl, hb.trans (hb2.mono hb.size)⟩
      · rw [scale_no a n d (scOk_no (fun h => h1 h.2))]
        clear hv
        by_cases h2 : n < 0
        · have k1 : decide (n < 0) = true := decide_eq_true h2
          go_enter Tryz.func78, Tryz.ntmps78
          go_wp2_with fail
          refine H.out.mono ?_
          rintro e w1 ⟨rfl, hb⟩
          go_wp2
          go_ret2
          exact ⟨rfl, hb⟩
        · have k1 : decide (n < 0) = false := decide_eq_false h2
          by_cases h3 : 1099511627776 < n
          · have k2 : decide (1099511627776 < n) = true := decide_eq_true h3
            go_enter Tryz.func78, Tryz.ntmps78
            go_wp2_with fail
            refine H.out.mono ?_
            rintro e w1 ⟨rfl, hb⟩
            go_wp2
            go_ret2
            exact ⟨rfl, hb⟩
          · have k2 : decide (1099511627776 < n) = false := decide_eq_false h3
            by_cases h4 : d < 1
            · have k3 : decide (d < 1) = true := decide_eq_true h4
              go_enter Tryz.func78, Tryz.ntmps78
              go_wp2_with fail
              refine H.out.mono ?_
              rintro e w1 ⟨rfl, hb⟩
              go_wp2
              go_ret2
              exact ⟨rfl, hb⟩
            · have k3 : decide (d < 1) = false := decide_eq_false h4
              have k4 : decide (1099511627776 < d) = true := decide_eq_true (by omega)
              go_enter Tryz.func78, Tryz.ntmps78
              go_wp2_with fail
              refine H.out.mono ?_
              rintro e w1 ⟨rfl, hb⟩
              go_wp2
              go_ret2
              exact ⟨rfl, hb⟩
  · exact rscale_pos a n d w (by omega)
end Go.Proofs.YtngippiilgdnoaaGreat
