/-
  The law of the order of periods: it returns true.
-/
import Derived.Test.YtimclpgkdplnhaaPlain44
import Derived.Test.YtimclpgkdplnhaaAlive44
namespace Go.Proofs.Ytimclpgkdplnhaa
open Go.RowKit

theorem rev_take (l : List (Int × Int)) (k : Nat) (h : k < l.length) : l.reverse.take (k + 1) = l.reverse.take k ++ [l[l.length - 1 - k]] := by
  rw [List.take_succ_eq_append_getElem (by simpa using h), List.getElem_reverse]

theorem pers_tail {W : World} {av : Option Addr} {cap : Nat} {l : List (Int × Int)} {p : Int × Int} {r : List (Int × Int)} (e : l = p :: r) (h : PersAt W (.slice av l.length cap) l) :
    PersAt W (.slice (if cap = 1 then av else Option.map (fun x => { block := x.block, off := x.off + 2 }) av) (l.length - 1) (cap - 1)) r := by
  obtain ⟨av2, cap2, e2, h1, h2, h3⟩ := h
  cases e2
  subst e
  have h1' : r.length + 1 ≤ cap := h1
  refine ⟨_, cap - 1, rfl, by omega, ⟨Nat.le_trans (Nat.sub_le _ _) h2.1, fun hn => ?_⟩, fun hne => ?_⟩
  · by_cases hc : cap = 1
    · omega
    · rw [if_neg hc] at hn
      have : av = none := by cases av with
        | none => rfl
        | some a => cases hn
      have := h2.2 this
      omega
  · obtain ⟨b, o, rfl, hB, hx⟩ := h3 (by simp)
    have hr : 0 < r.length := List.length_pos_iff.2 hne
    refine ⟨b, o + 2, by rw [if_neg (by omega)]; rfl, hB, fun i hi => ?_⟩
    have := hx (i + 1) (by simpa using hi)
    rw [show o + 2 + i * 2 = o + (i + 1) * 2 by omega]
    exact this

set_option maxRecDepth 100000 in
set_option maxHeartbeats 6400000 in
theorem order44_yes (fee f t : Int) (va : Value) (l : List (Int × Int)) (w : World) (ha : PersAt w va l) (hl : l.length ≤ 12) (h0 : 0 ≤ fee) (hav : amB fee = true) (hv : validB f t = true) :
    Calls Try.prog 5 #[.int .i64 fee, .agg #[.int .i64 f, .int .i64 t], va] w fun e w' => e = .returned (.bool true) ∧ Below w.heap.size w w' := by
  have ha' := ha
  obtain ⟨av, cap, rfl, hlc, hm, -⟩ := ha
  have hm1 := hm.1
  unfold maxLen at hm1
  obtain ⟨W, hW⟩ : ∃ W, W = w.alloc (Obj.cells #[Value.int .i64 f, Value.int .i64 t] 23) := ⟨_, rfl⟩
  have hw0 : Below w.heap.size w W := by rw [hW]; exact (Below.refl _ _).alloc (Nat.le_refl _) _
  have rW : W.heap[w.heap.size]? = some (Obj.cells #[Value.int .i64 f, Value.int .i64 t] 23) := by rw [hW]; exact heap_alloc_new _ _
  have hzW : w.heap.size < W.heap.size := by rw [hW]; simp
  have HM := Lib.hid (show ∀ w', Below W.heap.size W w' → w'.cell? ⟨w.heap.size, 0, none⟩ = some (.int .i64 f) ∧ w'.cell? ⟨w.heap.size, 1, none⟩ = some (.int .i64 t) from fun w' hb => by
    have q := (hb.block _ hzW).trans rW
    exact ⟨cell_of_row w' _ 0 _ _ _ q, cell_of_row w' _ 1 _ _ _ q⟩)
  have HW := Lib.hid hW
  have Hv := Lib.hid (fun w1 => rvalid_calls f t w1)
  have Ha := Lib.hid (fun w1 => ramvalid_calls fee w1)
  have HL := Lib.hid (fun w1 (hb : Below W.heap.size W w1) => (ha'.below hw0).below hb)
  have HCov := Lib.hid (fun w1 (hb : Below W.heap.size W w1) => rcover_calls _ l w1 ((ha'.below hw0).below hb) (by omega))
  have P1 := pro_any fee f t l hav h0 hv
  have P2 := Lib.hid (pro_same fee f t l.reverse l (fun x => inL_reverse l x))
  have P3 := Lib.hid (pro_same fee f t (chooseL l [] true false) l (fun x => inL_cover l x))
  have P4 := Lib.hid (fun r p (e : l = p :: r) => (show (proV fee f t r).1 ≤ (proV fee f t l).1 ∧ (proV fee f t r).2 = 0 ∧ 0 ≤ (proV fee f t r).1 from by
    have h1 := pro_any fee f t r hav h0 hv
    refine ⟨pro_less fee f t r l hav h0 hv (fun x hx => ?_), h1.1, h1.2.1⟩
    rw [e]
    show (containsB p.1 p.2 x || inL r x) = true
    rw [hx, Bool.or_true]))
  have P5 := Lib.hid (fun (e : l = []) => (show (proV fee f t l).1 = 0 from by rw [e]; exact pro_none fee f t hav h0 hv))
  have hcl := choose_len l [] true false
  rw [List.length_nil] at hcl
  rw [hv] at Hv
  rw [hav] at Ha
  have k1 : decide ((12 : Int) < (l.length : Int)) = false := decide_eq_false (by omega)
  have k2 : decide (12 < l.length) = false := decide_eq_false (by omega)
  have k3 : decide (fee < 0) = false := decide_eq_false (by omega)
  clear hv hav hW rW
  obtain ⟨V, hV⟩ : ∃ V, V = proV fee f t l := ⟨_, rfl⟩
  rw [← hV] at P1 P2 P3 P4 P5
  have HV := Lib.hid hV
  obtain ⟨x, xe⟩ := V
  dsimp only at P1
  obtain ⟨rfl, hx0, hx1⟩ := P1
  clear hV
  obtain ⟨m0, m1⟩ := HM.out W (Below.refl _ _)
  go_enter Try.func5, Try.ntmps5
  go_upto_region 1 with (fail)
  rw [← HW.out]
  go_wp2_with fail
  refine (Ha.out W).mono ?_
  rintro e w1 ⟨rfl, hb1⟩
  clear m0 m1
  obtain ⟨m0, m1⟩ := HM.out w1 hb1
  go_wp2_with fail
  refine (Hv.out w1).mono ?_
  rintro e w2 ⟨rfl, hbx⟩
  have hb2 := hb1.trans (hbx.mono hb1.size)
  clear m0 m1 hbx
  have hwl : IntKind.i64.wrap ((l.length : Int) - 1) = (l.length : Int) - 1 := IntWalk.i64_in _ (by omega)
  go_wp2_with fail
  go_loopw [7, 8] (fun v i wr => ∃ k : Nat, k ≤ l.length ∧ i = .int .i64 ((l.length : Int) - 1 - k) ∧ wr.ownsRow w2.heap.size 23 2 v k ((l.reverse.take k).flatMap perCells) ∧ Below w2.heap.size w2 wr) (fun _ i _ => ((intOf i) + 1).toNat)
  case atStart => exact ⟨0, Nat.zero_le _, by simp, ⟨rfl, Or.inl ⟨rfl, rfl⟩⟩, Below.refl _ _⟩
  case round =>
    obtain ⟨k, hk, rfl, hown, hb⟩ := hrel
    have hbW := hb2.trans (hb.mono hb2.size)
    obtain ⟨vo, co, rfl, hco, -⟩ := own_shape hown
    have Hown := Lib.hid hown
    clear hown
    by_cases hlt : k < l.length
    · obtain ⟨j, hj⟩ : ∃ j : Nat, j = l.length - 1 - k := ⟨_, rfl⟩
      have hjl : j < l.length := by omega
      have hji : (l.length : Int) - 1 - (k : Int) = (j : Int) := by omega
      rw [hji]
      have HJ := Lib.hid hj
      have HR := Lib.hid (rev_take l k hlt)
      obtain ⟨av2, cap2, e2, -, -, hx⟩ := HL.out wr hbW
      cases e2
      obtain ⟨b, o, rfl, hB, hx⟩ := hx (by rintro rfl; cases hlt)
      obtain ⟨c0, c1⟩ := hx j hjl
      have HR := Lib.hid (show l.reverse.take (k + 1) = l.reverse.take k ++ [l[j]] by rw [HR.out]; congr 2; simp only [hj])
      have hk0 : (0 : Int) ≤ (j : Int) := Int.natCast_nonneg _
      have hk1 : (j : Int) < (l.length : Int) := by omega
      have hjk : (j : Int) - 1 = (l.length : Int) - 1 - ((k + 1 : Nat) : Int) := by omega
      have HJK := Lib.hid hjk
      have hjw : IntKind.i64.wrap ((j : Int) - 1) = (j : Int) - 1 := IntWalk.i64_in _ (by omega)
      have HK := Lib.hid (show (l.length : Int) = (j : Int) + 1 + k by omega)
      clear hx hji hj hjk
      generalize l[j] = p at *
      obtain ⟨p1, p2⟩ := p
      dsimp only at *
      obtain ⟨i0, hi, hy0, hy1, hy2⟩ := info_parts Try.perInfo
      have Hi := Lib.hid (And.intro hi (And.intro hy0 (And.intro hy1 hy2)))
      clear hi hy0 hy1 hy2
      have hbz := hb.size
      go_wp2_with (at_builtin; refine wpList_append_own _ rfl _ _ 24 rfl w2.heap.size 23 i0 _ 2 16 Try.underlying24 Hi.out.1 Hi.out.2.1 Hi.out.2.2.1 Hi.out.2.2.2 rfl (by decide) _ _ _ rfl (Hown.out.alloc _) ⟨wr.heap.size, 0, none⟩ 1 1 [.int .i64 p1, .int .i64 p2] rfl rfl (World.news_of_block (cs := #[.int .i64 p1, .int .i64 p2]) (t := 23) (fr := (0, 0)) (heap_alloc_new _ _)) ?aq2 ?aq3 ?aq4 ?aq5 ?_)
      case aq2 => simp [Value.oneCell']
      case aq3 => unfold maxLen; omega
      case aq4 => omega
      case aq5 => (try simp); omega
      intro v_w2 w3 hown_w3 hgrow _
      have hb3 := (hb.alloc hbz (Obj.cells #[.int .i64 p1, .int .i64 p2] 23)).grown hgrow (by simp; omega) (fun g hg => (ownsRow_block Hown.out g hg).1)
      have Hown3 := Lib.hid hown_w3
      clear hown_w3 hgrow
      obtain ⟨ao2, co2, rfl, -, -⟩ := own_shape Hown3.out
      go_wp2
      refine ⟨⟨k + 1, by omega, by rw [HJK.out], ?_, hb3⟩, by have := HK.out; simp [intOf]; try omega⟩
      rw [HR.out, List.flatMap_append]
      exact Hown3.out
    · have hkl : k = l.length := by omega
      have HBk := Lib.hid (show PersAt wr (.slice vo k co) l.reverse by
        have h := Hown.out
        rw [hkl, List.take_of_length_le (by simp)] at h
        have hr : l.reverse.length = l.length := by simp
        rw [hkl]
        rw [← hr] at h ⊢
        exact PersAt.own h)
      have hneg : (l.length : Int) - 1 - (k : Int) = -1 := by omega
      rw [hneg]
      clear hkl hneg hco hlt
      obtain ⟨m0, m1⟩ := HM.out wr hbW
      have Q1 := Lib.hid (prorate_calls fee f t _ l wr (HL.out wr hbW) (by omega))
      rw [← HV.out] at Q1
      go_wp2_with fail
      refine Q1.out.mono ?_
      rintro e w4 ⟨he, hbx⟩
      obtain rfl : e = .returned (.tuple #[.int .i64 x, .int .i64 0]) := he
      have hb4 := hbW.trans (hbx.mono hbW.size)
      have Q2 := Lib.hid (prorate_calls fee f t _ l.reverse w4 (HBk.out.below hbx) (by simp; omega))
      rw [P2.out] at Q2
      clear m0 m1 hbx
      obtain ⟨m0, m1⟩ := HM.out w4 hb4
      go_wp2_with fail
      refine Q2.out.mono ?_
      rintro e w5 ⟨he, hbx⟩
      obtain rfl : e = .returned (.tuple #[.int .i64 x, .int .i64 0]) := he
      have hb5 := hb4.trans (hbx.mono hb4.size)
      clear m0 m1 hbx
      have hr5 := Below.refl w5.heap.size w5
      have Mk := Lib.hid (show ∀ w' : World, Below w5.heap.size w5 w' → Below w5.heap.size w5 w' ∧ w'.cell? ⟨w.heap.size, 0, none⟩ = some (.int .i64 f) ∧ w'.cell? ⟨w.heap.size, 1, none⟩ = some (.int .i64 t) from
        fun w' h => ⟨h, HM.out w' (hb5.trans (h.mono hb5.size))⟩)
      go_wp2_with fail
      go_region_held3 (fun w' : World => Below w5.heap.size w5 w' ∧ w'.cell? ⟨w.heap.size, 0, none⟩ = some (.int .i64 f) ∧ w'.cell? ⟨w.heap.size, 1, none⟩ = some (.int .i64 t))
        (first
          | exact Mk.out _ (by assumption)
          | exact Mk.out _ (Below.drew (by assumption)))
        (first
          | (go_at_call 17
             refine (HCov.out _ (hb5.trans (Below.mono (And.left (by assumption)) hb5.size))).mono ?_
             rintro e w6 ⟨v6, rfl, hp6, hb6⟩
             have hY6 : Below w5.heap.size w5 w6 := Below.trans (And.left (by assumption)) (hb6.mono (Below.size (And.left (by assumption))))
             clear hb6)
          | (go_at_call 13
             refine (prorate_calls fee f t v6 _ _ hp6 (by omega)).mono ?_
             rintro e w7 ⟨he, hb7⟩
             obtain rfl : e = .returned (.tuple #[.int .i64 x, .int .i64 0]) := he.trans (by rw [P3.out]; rfl)
             have hY7 : Below w5.heap.size w5 w7 := Below.trans hY6 (hb7.mono hY6.size)
             clear hb7))
      have hb7 := hb5.trans (hY7.mono hb5.size)
      clear hp6 Mk
      cases hll : l with
      | nil =>
        obtain rfl := P5.out hll
        have hz : l.length = 0 := by rw [hll]; rfl
        rw [← hll, hz]
        clear hll hz k1 k2 hwl
        go_wp2_with fail
        refine (alive44_calls w7).mono ?_
        rintro e w8 ⟨rfl, hbx⟩
        have hb8 := hb7.trans (hbx.mono hb7.size)
        go_wp2
        go_ret
        exact ⟨rfl, hw0.trans (hb8.mono hw0.size)⟩
      | cons p r =>
        obtain ⟨q1, q2, q3⟩ := P4.out r p hll
        obtain ⟨D, hD⟩ : ∃ D, D = proV fee f t r := ⟨_, rfl⟩
        rw [← hD] at q1 q2 q3
        obtain ⟨d, de⟩ := D
        dsimp only at q1 q2 q3
        subst q2
        have HD := Lib.hid hD.symm
        have hrl : r.length ≤ 1000 := by rw [hll] at hl; simp at hl; omega
        clear hD
        have hne : ((l.length : Int) == 0) = false := beq_eq_false_iff_ne.2 (by rw [hll]; simp; omega)
        have hl1 : (1 : Int) ≤ (l.length : Int) := by rw [hll]; simp; omega
        have hc1 : (1 : Int) ≤ (cap : Int) := by omega
        have hlc2 : (l.length : Int) ≤ (cap : Int) := by omega
        rw [← hll]
        have Hll := Lib.hid hll
        clear hll
        obtain ⟨m0, m1⟩ := HM.out w7 hb7
        go_upto_region 15 with (fail)
        have hr7 := Below.refl w7.heap.size w7
        have Mk := Lib.hid (show ∀ w' : World, Below w7.heap.size w7 w' → Below w7.heap.size w7 w' ∧ w'.cell? ⟨w.heap.size, 0, none⟩ = some (.int .i64 f) ∧ w'.cell? ⟨w.heap.size, 1, none⟩ = some (.int .i64 t) from
          fun w' h => ⟨h, HM.out w' (hb7.trans (h.mono hb7.size))⟩)
        have HT0 := Lib.hid (show ∀ W', Below W.heap.size W W' → PersAt W' (.slice (if cap = 1 then av else Option.map (fun x => ({ block := x.block, off := x.off + 2 } : Addr)) av) (l.length - 1) (cap - 1)) r from fun W' hW' => pers_tail Hll.out (HL.out W' hW'))
        by_cases hcap : cap = 1
        · subst hcap
          have HT := Lib.hid (show ∀ W', Below W.heap.size W W' → PersAt W' (.slice av 0 0) r by
            have h := HT0.out
            rw [show l.length - 1 = 0 by omega] at h
            exact h)
          clear HT0
          go_region_held3 (fun w' : World => Below w7.heap.size w7 w' ∧ w'.cell? ⟨w.heap.size, 0, none⟩ = some (.int .i64 f) ∧ w'.cell? ⟨w.heap.size, 1, none⟩ = some (.int .i64 t))
            (first
              | exact Mk.out _ (by assumption)
              | exact Mk.out _ (Below.drew (by assumption)))
            (first
              | (go_at_call 13
                 refine (prorate_calls fee f t _ r _ (HT.out _ (hb7.trans (Below.mono (And.left (by assumption)) hb7.size))) hrl).mono ?_
                 rintro e w8 ⟨he, hb8⟩
                 obtain rfl : e = .returned (.tuple #[.int .i64 d, .int .i64 0]) := he.trans (by rw [HD.out]; rfl)
                 have hY8 : Below w7.heap.size w7 w8 := Below.trans (And.left (by assumption)) (hb8.mono (Below.size (And.left (by assumption))))
                 clear hb8))
          have hb8 := hb7.trans (hY8.mono hb7.size)
          have j1 : decide (d ≤ x) = true := decide_eq_true q1
          have j2 : decide (x ≤ fee) = true := decide_eq_true hx1
          clear Mk
          go_wp2_with fail
          refine (alive44_calls w8).mono ?_
          rintro e w9 ⟨rfl, hbx⟩
          have hb9 := hb8.trans (hbx.mono hb8.size)
          go_wp2
          go_ret
          exact ⟨rfl, hw0.trans (hb9.mono hw0.size)⟩
        · have HT := Lib.hid (show ∀ W', Below W.heap.size W W' → PersAt W' (.slice (Option.map (fun x => ({ block := x.block, off := x.off + 2 } : Addr)) av) (l.length - 1) (cap - 1)) r by have h := HT0.out; rw [if_neg hcap] at h; exact h)
          clear HT0
          go_region_held3 (fun w' : World => Below w7.heap.size w7 w' ∧ w'.cell? ⟨w.heap.size, 0, none⟩ = some (.int .i64 f) ∧ w'.cell? ⟨w.heap.size, 1, none⟩ = some (.int .i64 t))
            (first
              | exact Mk.out _ (by assumption)
              | exact Mk.out _ (Below.drew (by assumption)))
            (first
              | (go_at_call 13
                 refine (prorate_calls fee f t _ r _ (HT.out _ (hb7.trans (Below.mono (And.left (by assumption)) hb7.size))) hrl).mono ?_
                 rintro e w8 ⟨he, hb8⟩
                 obtain rfl : e = .returned (.tuple #[.int .i64 d, .int .i64 0]) := he.trans (by rw [HD.out]; rfl)
                 have hY8 : Below w7.heap.size w7 w8 := Below.trans (And.left (by assumption)) (hb8.mono (Below.size (And.left (by assumption))))
                 clear hb8))
          have hb8 := hb7.trans (hY8.mono hb7.size)
          have j1 : decide (d ≤ x) = true := decide_eq_true q1
          have j2 : decide (x ≤ fee) = true := decide_eq_true hx1
          clear Mk
          go_wp2_with fail
          refine (alive44_calls w8).mono ?_
          rintro e w9 ⟨rfl, hbx⟩
          have hb9 := hb8.trans (hbx.mono hb8.size)
          go_wp2
          go_ret
          exact ⟨rfl, hw0.trans (hb9.mono hw0.size)⟩

set_option maxRecDepth 100000 in
set_option maxHeartbeats 3200000 in
theorem order44_law (fee f t : Int) (va : Value) (l : List (Int × Int)) (w : World) (ha : PersAt w va l) :
    Calls Try.prog 5 #[.int .i64 fee, .agg #[.int .i64 f, .int .i64 t], va] w fun e w' => e = .returned (.bool true) ∧ Below w.heap.size w w' := by
  by_cases hgood : l.length ≤ 12 ∧ 0 ≤ fee ∧ amB fee = true ∧ validB f t = true
  · exact order44_yes fee f t va l w ha hgood.1 hgood.2.1 hgood.2.2.1 hgood.2.2.2
  · obtain ⟨av, cap, rfl, hlc, hm, -⟩ := ha
    have hm1 := hm.1
    unfold maxLen at hm1
    obtain ⟨W, hW⟩ : ∃ W, W = w.alloc (Obj.cells #[Value.int .i64 f, Value.int .i64 t] 23) := ⟨_, rfl⟩
    have hw0 : Below w.heap.size w W := by rw [hW]; exact (Below.refl _ _).alloc (Nat.le_refl _) _
    have rW : W.heap[w.heap.size]? = some (Obj.cells #[Value.int .i64 f, Value.int .i64 t] 23) := by rw [hW]; exact heap_alloc_new _ _
    have hzW : w.heap.size < W.heap.size := by rw [hW]; simp
    have HM := Lib.hid (show ∀ w', Below W.heap.size W w' → w'.cell? ⟨w.heap.size, 0, none⟩ = some (.int .i64 f) ∧ w'.cell? ⟨w.heap.size, 1, none⟩ = some (.int .i64 t) from fun w' hb => by
      have q := (hb.block _ hzW).trans rW
      exact ⟨cell_of_row w' _ 0 _ _ _ q, cell_of_row w' _ 1 _ _ _ q⟩)
    have HW := Lib.hid hW
    clear hW rW hzW
    by_cases k1 : l.length ≤ 12
    · have k1' : decide ((12 : Int) < (l.length : Int)) = false := decide_eq_false (by omega)
      by_cases k2 : 0 ≤ fee
      · have k2' : decide (fee < 0) = false := decide_eq_false (by omega)
        have Ha := Lib.hid (ramvalid_calls fee W)
        cases k3 : amB fee with
        | false =>
          rw [k3] at Ha
          clear hgood k3
          obtain ⟨m0, m1⟩ := HM.out W (Below.refl _ _)
          go_enter Try.func5, Try.ntmps5
          go_upto_region 1 with (fail)
          rw [← HW.out]
          go_wp2_with fail
          refine Ha.out.mono ?_
          rintro e w1 ⟨rfl, hb1⟩
          go_wp2_with fail
          refine (alive44_calls w1).mono ?_
          rintro e w2 ⟨rfl, hbx⟩
          have hb2 := hb1.trans (hbx.mono hb1.size)
          go_wp2
          go_ret
          exact ⟨rfl, hw0.trans (hb2.mono hw0.size)⟩
        | true =>
          rw [k3] at Ha
          cases k4 : validB f t with
          | true => exact absurd ⟨k1, k2, k3, k4⟩ hgood
          | false =>
            have Hv := Lib.hid (fun w1 => rvalid_calls f t w1)
            rw [k4] at Hv
            clear hgood k3 k4
            obtain ⟨m0, m1⟩ := HM.out W (Below.refl _ _)
            go_enter Try.func5, Try.ntmps5
            go_upto_region 1 with (fail)
            rw [← HW.out]
            go_wp2_with fail
            refine Ha.out.mono ?_
            rintro e w1 ⟨rfl, hb1⟩
            clear m0 m1
            obtain ⟨m0, m1⟩ := HM.out w1 hb1
            go_wp2_with fail
            refine (Hv.out w1).mono ?_
            rintro e w3 ⟨rfl, hbv⟩
            have hb3 := hb1.trans (hbv.mono hb1.size)
            go_wp2_with fail
            refine (alive44_calls w3).mono ?_
            rintro e w2 ⟨rfl, hbx⟩
            have hb2 := hb3.trans (hbx.mono hb3.size)
            go_wp2
            go_ret
            exact ⟨rfl, hw0.trans (hb2.mono hw0.size)⟩
      · have k2' : decide (fee < 0) = true := decide_eq_true (by omega)
        clear hgood
        obtain ⟨m0, m1⟩ := HM.out W (Below.refl _ _)
        go_enter Try.func5, Try.ntmps5
        go_upto_region 1 with (fail)
        rw [← HW.out]
        go_wp2_with fail
        refine (alive44_calls W).mono ?_
        rintro e w2 ⟨rfl, hb2⟩
        go_wp2
        go_ret
        exact ⟨rfl, hw0.trans (hb2.mono hw0.size)⟩
    · have k1' : decide ((12 : Int) < (l.length : Int)) = true := decide_eq_true (by omega)
      clear hgood
      obtain ⟨m0, m1⟩ := HM.out W (Below.refl _ _)
      go_enter Try.func5, Try.ntmps5
      go_upto_region 1 with (fail)
      rw [← HW.out]
      go_wp2_with fail
      refine (alive44_calls W).mono ?_
      rintro e w2 ⟨rfl, hb2⟩
      go_wp2
      go_ret
      exact ⟨rfl, hw0.trans (hb2.mono hw0.size)⟩
end Go.Proofs.Ytimclpgkdplnhaa
