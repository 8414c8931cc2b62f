/-
  The walk of the reference's minutes.
-/
import Derived.Test.YtnekgkmlodeckaaMgav
import Derived.Test.YtnekgkmlodeckaaMgaj
namespace Go.Proofs.Ytnekgkmlodeckaa
open Go.RowKit

/-- Does a slot begin or end at a minute? -/
def atM (m : Int) (s : Sl) : Bool := s.2.1 == m || s.2.2 == m
def limM (l : List Bn) (m : Int) : Bool := decide (m = 0) || l.any fun b => b.2.any (atM m)
def minsU (l : List Bn) : Nat → List Int
  | 0 => []
  | m + 1 => minsU l m ++ (if limM l m = true then [(m : Int)] else [])
theorem minsU_mem (l : List Bn) : ∀ (n : Nat) (x : Int), x ∈ minsU l n ↔ 0 ≤ x ∧ x < n ∧ limM l x = true
  | 0, x => by simp [minsU]; omega
  | n + 1, x => by
    rw [minsU, List.mem_append, minsU_mem l n x]
    by_cases hl : limM l n = true
    · rw [if_pos hl, List.mem_singleton]
      constructor
      · rintro (⟨h1, h2, h3⟩ | rfl)
        · exact ⟨h1, by omega, h3⟩
        · exact ⟨by omega, by omega, hl⟩
      · rintro ⟨h1, h2, h3⟩
        by_cases he : x = n
        · exact Or.inr he
        · exact Or.inl ⟨h1, by omega, h3⟩
    · rw [if_neg hl]
      constructor
      · rintro (⟨h1, h2, h3⟩ | h)
        · exact ⟨h1, by omega, h3⟩
        · cases h
      · rintro ⟨h1, h2, h3⟩
        refine Or.inl ⟨h1, ?_, h3⟩
        by_cases he : x = n
        · subst he; exact absurd h3 hl
        · omega
theorem minsU_up (l : List Bn) : ∀ n : Nat, (minsU l n).Pairwise (· < ·)
  | 0 => List.Pairwise.nil
  | n + 1 => by
    rw [minsU]
    refine List.pairwise_append.2 ⟨minsU_up l n, ?_, fun a ha b hb => ?_⟩
    · split <;> simp
    · have := ((minsU_mem l n a).1 ha).2.1
      split at hb
      · rw [List.mem_singleton] at hb; omega
      · cases hb
theorem minsU_len (l : List Bn) : ∀ n : Nat, (minsU l n).length ≤ n
  | 0 => Nat.le_refl _
  | n + 1 => by
    have := minsU_len l n
    rw [minsU, List.length_append]
    split <;> simp <;> omega
theorem minsU_mins (l : List Bn) (hall : ∀ b ∈ l, b.2.all slotOk = true) : Mins (minsU l 1440) (fun _ => True) l := by
  have hm := minsU_mem l 1440
  have hup := minsU_up l 1440
  refine ⟨hup, ?_, fun m h => ?_, fun b hb s hs _ => ?_⟩
  · have h0 : (0 : Int) ∈ minsU l 1440 := (hm 0).2 ⟨by decide, by decide, by unfold limM; simp⟩
    cases hL : minsU l 1440 with
    | nil => rw [hL] at h0; cases h0
    | cons a r =>
      rw [hL] at h0 hup
      rcases List.mem_cons.1 h0 with e | e
      · rw [← e]; rfl
      · have h1 := (List.pairwise_cons.1 hup).1 0 e
        have ha : a ∈ minsU l 1440 := by rw [hL]; simp
        have := ((hm a).1 ha).1
        omega
  · have := (hm m).1 h
    exact ⟨this.1, by have := this.2.1; omega⟩
  · obtain ⟨g1, g2, g3, g4, g5⟩ := slot_good ((List.all_eq_true.1 (hall b hb)) s hs)
    have hl : ∀ x, atM x s = true → limM l x = true := fun x hx => by
      unfold limM
      rw [Bool.or_eq_true]
      exact Or.inr (List.any_eq_true.2 ⟨b, hb, List.any_eq_true.2 ⟨s, hs, hx⟩⟩)
    exact ⟨fun h => (hm _).2 ⟨g3, by omega, hl _ (by unfold atM; simp)⟩, fun h => (hm _).2 ⟨by omega, by omega, hl _ (by unfold atM; simp)⟩⟩

theorem any_snoc {α : Type} (p : α → Bool) (l : List α) (k : Nat) (h : k < l.length) : (l.take (k + 1)).any p = ((l.take k).any p || p l[k]) := by
  rw [List.take_succ_eq_append_getElem h, List.any_append]; simp

def MinTo (l : List Bn) (w : World) (e : Ending) (w' : World) : Prop := ∃ v', e = .returned v' ∧ IcsAt w' v' (minsU l 1440) ∧ Below w.heap.size w w'

set_option maxRecDepth 100000 in
set_option maxHeartbeats 12800000 in
theorem minutes_calls (v : Value) (l : List Bn) (w : World) (h : BnsAt w v l) :
    Calls Try.prog 93 #[v] w (MinTo l w) := by
  have hB := h
  obtain ⟨av, cap, rfl, hlc, hm, -⟩ := h
  have hm := hm.1
  unfold maxLen at hm
  go_enter Try.func93, Try.ntmps93
  go_wp2_with fail
  go_loopw [3, 4] (fun v i wr => ∃ n : Nat, n ≤ 1440 ∧ i = .int .i64 n ∧ wr.ownsRow w.heap.size 3 1 v (minsU l n).length ((minsU l n).map (Value.int .i64)) ∧ Below w.heap.size w wr) (fun _ i _ => 1440 - (intOf i).toNat)
  case atStart => exact ⟨0, by omega, rfl, ⟨rfl, Or.inl ⟨rfl, rfl⟩⟩, Below.refl _ _⟩
  case round =>
    obtain ⟨n, hn, rfl, hown, hb⟩ := hrel
    have hnl := minsU_len l n
    obtain ⟨ao, co, rfl, hco, -⟩ := own_shape hown
    obtain ⟨wo, rfl⟩ : ∃ wo : World, wo = wr := ⟨_, rfl⟩
    have Hown := Lib.hid hown
    clear hown
    by_cases hlt : n < 1440
    · have hn0 : (n : Int) < 1440 := by omega
      obtain ⟨lim, hlim⟩ : ∃ lim : Int → Bool, lim = fun m => l.any fun b => b.2.any (atM m) := ⟨_, rfl⟩
      have HM := Lib.hid (show minsU l (n + 1) = minsU l n ++ (if (decide ((n : Int) = 0) || lim n) = true then [(n : Int)] else []) by rw [hlim]; rfl)
      have HLi := Lib.hid (show lim n = l.any fun b => b.2.any (atM n) by rw [hlim])
      clear hlim
      obtain ⟨z, hz⟩ : ∃ z : Bool, z = ((n : Int) == 0) := ⟨_, rfl⟩
      have HZ := Lib.hid (show z = decide ((n : Int) = 0) by rw [hz]; rfl)
      have HZe := Lib.hid hz
      obtain ⟨U, hU⟩ : ∃ U, U = minsU l n := ⟨_, rfl⟩
      rw [← hU] at Hown HM hnl hco ⊢
      clear hU
      go_upto_region 6 with (fail)
      rw [← HZe.out]
      clear hz
      go_wp2_with fail
      go_loopw [5, 6] (fun z i wr => ∃ k : Nat, k ≤ l.length ∧ i = .int .i64 k ∧ z = .bool (decide ((n : Int) = 0) || (l.take k).any fun b => b.2.any (atM n)) ∧ wr = wo) (fun _ i _ => l.length - (intOf i).toNat)
      case atStart => exact ⟨0, Nat.zero_le _, rfl, by rw [HZ.out]; simp, rfl⟩
      case round =>
        obtain ⟨k, hk, rfl, rfl, rfl⟩ := hrel
        obtain ⟨wo, rfl⟩ : ∃ wo : World, wo = wr := ⟨_, rfl⟩
        have HA := Lib.hid (fun h => any_snoc (fun b : Bn => b.2.any (atM n)) l k h)
        have HAe := Lib.hid (fun (h : l.length ≤ k) => (show (l.take k).any (fun b => b.2.any (atM n)) = l.any (fun b => b.2.any (atM n)) by rw [List.take_of_length_le h]))
        generalize (l.take k).any (fun b => b.2.any (atM n)) = z1 at *
        by_cases hlk : k < l.length
        · obtain ⟨av2, cap2, e2, -, -, hx⟩ := hB.below hb
          cases e2
          obtain ⟨b, o, rfl, hBb, hx⟩ := hx (by rintro rfl; cases hlk)
          obtain ⟨-, sv, c1, hs⟩ := hx k hlk
          have hk0 : (0 : Int) ≤ (k : Int) := Int.natCast_nonneg _
          have hk1 : (k : Int) < (l.length : Int) := by omega
          have HA := Lib.hid (HA.out hlk)
          clear hx
          generalize l[k] = y at *
          obtain ⟨nm, ss⟩ := y
          dsimp only at hs HA
          have hs0 := hs
          obtain ⟨asv, cs, rfl, hsc, hms, -⟩ := hs0
          have hms := hms.1
          unfold maxLen at hms
          obtain ⟨z2, hz2⟩ : ∃ z2 : Bool, z2 = (decide ((n : Int) = 0) || z1) := ⟨_, rfl⟩
          rw [← hz2]
          have HZ2 := Lib.hid hz2
          clear hz2
          go_wp2_with fail
          go_loopw [5, 7] (fun z i wr => ∃ j : Nat, j ≤ ss.length ∧ i = .int .i64 j ∧ z = .bool (z2 || (ss.take j).any (atM n)) ∧ wr = wo) (fun _ i _ => ss.length - (intOf i).toNat)
          case atStart => exact ⟨0, Nat.zero_le _, rfl, by simp, rfl⟩
          case round =>
            obtain ⟨j, hj, rfl, rfl, rfl⟩ := hrel
            have HJe := Lib.hid (fun (h : ss.length ≤ j) => (show (ss.take j).any (atM n) = ss.any (atM n) by rw [List.take_of_length_le h]))
            have HJ := Lib.hid (fun h => any_snoc (atM n) ss j h)
            generalize (ss.take j).any (atM n) = z3 at *
            by_cases hlj : j < ss.length
            · obtain ⟨av3, cap3, e3, -, -, hx⟩ := id hs
              cases e3
              obtain ⟨b3, o3, rfl, hB3, hx⟩ := hx (by rintro rfl; cases hlj)
              obtain ⟨d0, d1, d2⟩ := hx j hlj
              have hj0 : (0 : Int) ≤ (j : Int) := Int.natCast_nonneg _
              have hj1 : (j : Int) < (ss.length : Int) := by omega
              have HJ := Lib.hid (HJ.out hlj)
              clear hx
              generalize ss[j] = s at *
              obtain ⟨d, f, u⟩ := s
              dsimp only at d0 d1 d2 HJ
              have HM2 := Lib.hid (show atM n (d, f, u) = (f == n || u == n) from rfl)
              obtain ⟨z4, hz4⟩ : ∃ z4 : Bool, z4 = (z2 || z3) := ⟨_, rfl⟩
              have HZ4 := Lib.hid hz4
              rw [← hz4]
              clear hz4
              cases z4 with
              | true =>
                have HE := Lib.hid (show (z2 || (ss.take (j + 1)).any (atM n)) = true by rw [HJ.out, ← Bool.or_assoc, ← HZ4.out]; rfl)
                go_wp2
                exact ⟨⟨j + 1, by omega, by go_num, by rw [HE.out], by trivial⟩, by simp [intOf]; omega⟩
              | false =>
                have HE := Lib.hid (show (z2 || (ss.take (j + 1)).any (atM n)) = (f == n || u == n) by rw [HJ.out, ← Bool.or_assoc, ← HZ4.out, HM2.out]; rfl)
                cases hf : (f == (n : Int)) with
                | true =>
                  go_wp2
                  exact ⟨⟨j + 1, by omega, by go_num, by rw [HE.out, hf]; rfl, by trivial⟩, by simp [intOf]; omega⟩
                | false =>
                  go_wp2
                  exact ⟨⟨j + 1, by omega, by go_num, by rw [HE.out, hf]; rfl, by trivial⟩, by simp [intOf]; omega⟩
            · have HE := Lib.hid (show (z2 || z3) = (decide ((n : Int) = 0) || (l.take (k + 1)).any fun b => b.2.any (atM n)) by
                rw [HA.out, HZ2.out, HJe.out (by omega), Bool.or_assoc])
              go_wp2
              exact ⟨⟨k + 1, by omega, by go_num, by rw [HE.out], by trivial⟩, by simp [intOf]; omega⟩
        · have hk1 : ¬ (k : Int) < (l.length : Int) := by omega
          have hze : z1 = lim n := by rw [HLi.out]; exact HAe.out (by omega)
          obtain ⟨g, hg⟩ : ∃ g : Bool, g = (decide ((n : Int) = 0) || z1) := ⟨_, rfl⟩
          rw [← hg]
          have HG := Lib.hid (show g = (decide ((n : Int) = 0) || lim n) by rw [hg, hze])
          clear hg hze
          cases g with
          | true =>
            have HE := Lib.hid (show minsU l (n + 1) = U ++ [(n : Int)] by rw [HM.out, ← HG.out]; rfl)
            obtain ⟨i0, hi, hy0, hy1, hy2⟩ := info_parts Try.intInfo
            have Hi := Lib.hid (And.intro hi (And.intro hy0 (And.intro hy1 hy2)))
            clear hi hy0 hy1 hy2
            have hbz := hb.size
            go_wp2_with (at_builtin; refine wpList_append_own _ rfl _ _ 38 rfl w.heap.size 3 i0 _ 1 8 Try.underlying38 Hi.out.1 Hi.out.2.1 Hi.out.2.2.1 Hi.out.2.2.2 rfl (by decide) _ _ _ rfl (Hown.out.alloc _) ⟨wo.heap.size, 0, none⟩ 1 1 [.int .i64 n] rfl rfl (World.news_of_block (cs := #[.int .i64 n]) (t := 3) (fr := (0, 0)) (heap_alloc_new _ _)) ?aq2 ?aq3 ?aq4 ?aq5 ?_)
            case aq2 => simp [Value.oneCell']
            case aq3 => unfold maxLen; omega
            case aq4 => omega
            case aq5 => (try simp); omega
            intro v_w2 w2 hown_w2 hgrow _
            have hb2 := (hb.alloc hbz (Obj.cells #[.int .i64 n] 3)).grown hgrow (by simp; omega) (fun g hg => (ownsRow_block Hown.out g hg).1)
            have Hown2 := Lib.hid hown_w2
            clear hown_w2 hgrow
            obtain ⟨ao2, co2, rfl, -, -⟩ := own_shape Hown2.out
            go_wp2
            refine ⟨⟨n + 1, by omega, by go_num, ?_, hb2⟩, by simp [intOf]; omega⟩
            rw [HE.out, List.length_append, List.map_append]
            exact Hown2.out
          | false =>
            have HE := Lib.hid (show minsU l (n + 1) = U by rw [HM.out, ← HG.out]; simp)
            go_wp2
            exact ⟨⟨n + 1, by omega, by go_num, by rw [HE.out]; exact Hown.out, hb⟩, by simp [intOf]; omega⟩
    · have hn0 : ¬ (n : Int) < 1440 := by omega
      obtain rfl : n = 1440 := by omega
      go_wp2
      go_ret
      exact ⟨_, rfl, IcsAt.own Hown.out, hb⟩
end Go.Proofs.Ytnekgkmlodeckaa
