/-
  The walk of bands.Check.
  The walks of slices.ContainsFunc at slots, bands.find, bands.At.
  The walks of the reference's at and At.
-/
import Derived.Test.YtnekgkmlodeckaaMgau
import Derived.Shelf.Abstract
import Derived.Test.YtnekgkmlodeckaaMgav
namespace Go.Proofs.Ytnekgkmlodeckaa
open Go.RowKit

theorem check1_calls (x : Bn) (sv : Value) (nm : ByteArray) (B : Nat) (W : World) (hB : B < W.heap.size) (hc : W.cell? ⟨B, 0, none⟩ = some (.string nm)) :
    Calls Try.prog 64 #[.agg #[.string x.1, sv], .pointer (some ⟨B, 0, none⟩)] W fun e w' => e = .returned (.bool (sameS x.1 nm)) ∧ Below W.heap.size W w' := by
  have hne : ¬ B = W.heap.size := by omega
  have Ha := Lib.hid (fun o => (Below.refl W.heap.size W).alloc (Nat.le_refl _) o)
  go_enter Try.func64, Try.ntmps64
  go_wp2
  go_ret
  exact ⟨rfl, Ha.out _⟩

theorem SliceAt.take {α : Type} {sz : Nat} {R : World → Nat → Nat → α → Prop} {w : World} {av : Option Addr} {n cap : Nat} {l : List α} (h : SliceAt sz R w (.slice av n cap) l) (k : Nat) (hk : k ≤ l.length) : SliceAt sz R w (.slice av k cap) (l.take k) := by
  obtain ⟨av2, cap2, e, h1, h2, h3⟩ := h
  cases e
  have hl : (l.take k).length = k := by simp; omega
  refine ⟨av, cap, by rw [hl], by omega, h2, fun hne => ?_⟩
  obtain ⟨b, o, e, hB, hx⟩ := h3 (by rintro rfl; simp at hne)
  refine ⟨b, o, e, hB, fun i hi => ?_⟩
  rw [List.getElem_take]
  exact hx i (by omega)

set_option maxRecDepth 100000 in
set_option maxHeartbeats 6400000 in
theorem check_calls (v : Value) (l : List Bn) (w : World) (h : BnsAt w v l) :
    Calls Try.prog 29 #[v] w (IntTo (checkB l) w) := by
  have eg : ∀ args w, (callFunc 64 args).run Try.prog w = .ok (.enter 64 args) w := enters_of Try.func64 (by kernel_rfl) rfl
  have hh := h
  obtain ⟨av, cap, rfl, hlc, hm, -⟩ := h
  have hm := hm.1
  unfold maxLen at hm
  by_cases h0 : l.length = 0
  · have H := Lib.hid (show checkB l = 8 from if_pos h0)
    have hz : ((l.length : Int) == 0) = true := beq_iff_eq.2 (by omega)
    clear h0
    go_enter Try.func29, Try.ntmps29
    go_wp2
    go_ret
    exact ⟨ret_int H.out.symm, Below.refl _ _⟩
  · have hz : ((l.length : Int) == 0) = false := beq_eq_false_iff_ne.2 (by omega)
    by_cases h64 : 64 < l.length
    · have H := Lib.hid (show checkB l = 5 by unfold checkB; rw [if_neg h0, if_pos h64])
      have h64' : (64 : Int) < (l.length : Int) := by omega
      go_enter Try.func29, Try.ntmps29
      go_wp2
      go_ret
      exact ⟨ret_int H.out.symm, Below.refl _ _⟩
    · have HZ := Lib.hid (show checkB l = bandsE (l.take 0) (l.drop 0) by unfold checkB; rw [if_neg h0, if_neg h64]; rfl)
      have h64' : ¬ (64 : Int) < (l.length : Int) := by omega
      clear h0
      go_enter Try.func29, Try.ntmps29
      go_wp2_with fail
      go_loopw [3, 4, 5, 14] (fun _ _ _ i wr => ∃ k : Nat, k ≤ l.length ∧ i = .int .i64 k ∧ checkB l = bandsE (l.take k) (l.drop k) ∧ Below w.heap.size w wr) (fun _ _ _ i _ => l.length - (intOf i).toNat)
      case atStart => exact ⟨0, Nat.zero_le _, rfl, HZ.out, Below.refl _ _⟩
      case round =>
        obtain ⟨k, hk, rfl, hn, hb⟩ := hrel
        have Hn := Lib.hid hn
        clear hn
        by_cases hlt : k < l.length
        · have Hst := Lib.hid (Hn.out.trans (bandsE_step l k hlt))
          obtain ⟨av2, cap2, e2, -, -, hx⟩ := hh.below hb
          cases e2
          obtain ⟨b, o, rfl, hB, hx⟩ := hx (by rintro rfl; cases hlt)
          obtain ⟨⟨c0, s0⟩, sv, c1, hs⟩ := hx k hlt
          have hk0 : (0 : Int) ≤ (k : Int) := Int.natCast_nonneg _
          have hk1 : (k : Int) < (l.length : Int) := by omega
          have hkc : (k : Int) ≤ (cap : Int) := by omega
          clear hx
          generalize hy : l[k] = y at *
          have Hy := Lib.hid hy
          clear hy
          obtain ⟨nm, ss⟩ := y
          dsimp only at c0 c1 hs s0
          have hs0 := hs
          obtain ⟨asv, cs, rfl, -, hms, -⟩ := hs0
          have hms := hms.1
          unfold maxLen at hms
          obtain ⟨X, hX⟩ : ∃ X, X = wr.alloc (Obj.cells #[Value.string nm, .slice asv ss.length cs] 86) := ⟨_, rfl⟩
          have hbX : Below wr.heap.size wr X := by rw [hX]; exact (Below.refl _ _).alloc (Nat.le_refl _) _
          have hwX := hb.trans (hbX.mono hb.size)
          have hzX : wr.heap.size < X.heap.size := by rw [hX]; simp
          have rX : X.heap[wr.heap.size]? = some (Obj.cells #[Value.string nm, .slice asv ss.length cs] 86) := by rw [hX]; exact heap_alloc_new _ _
          have HM := Lib.hid (show ∀ w', Below X.heap.size X w' → w'.cell? ⟨wr.heap.size, 0, none⟩ = some (.string nm) ∧ w'.cell? ⟨wr.heap.size, 1, none⟩ = some (.slice asv ss.length cs) from fun w' hb => by
            have q := (hb.block _ hzX).trans rX
            exact ⟨cell_of_row w' _ 0 _ _ _ q, cell_of_row w' _ 1 _ _ _ q⟩)
          have HC := Lib.hid (show ∀ W, Below X.heap.size X W → Calls Try.prog 63 #[.slice (some ⟨b, o, none⟩) k cap, .func (.func 64) #[] #[.pointer (some ⟨wr.heap.size, 0, none⟩)]] W (BoolTo ((l.take k).any fun x => sameS x.1 nm) W) from fun W hW =>
            containsB_calls _ _ W (SliceAt.take (hh.below (hwX.trans (hW.mono hwX.size))) k hk) (fun x => sameS x.1 nm) _ _ eg (fun W2 x sv hW2 _ _ _ => check1_calls x sv nm wr.heap.size W2 (Nat.lt_of_lt_of_le hzX (hW.trans (hW2.mono hW.size)).size) (HM.out W2 (hW.trans (hW2.mono hW.size))).1))
          have HS := Lib.hid (show ∀ W, Below X.heap.size X W → Calls Try.prog 65 #[.slice asv ss.length cs] W (IntTo (slotsE ss) W) from fun W hW => slots_calls _ ss W ((hs.below hbX).below hW))
          have HX := Lib.hid hX
          obtain ⟨y0, y1⟩ := HM.out X (Below.refl _ _)
          have HwX := Lib.hid hwX
          clear hX hs hh rX hwX hB
          have hbE : bandE (l.take k) (nm, ss) (decide (k + 1 = l.length)) = if isName nm = false then 8 else if (l.take k).any (fun x => sameS x.1 nm) = true then 10 else if (decide (k + 1 = l.length)) = true then (if 0 < ss.length then 8 else 0) else slotsE ss := rfl
          have HbE := Lib.hid hbE
          clear hbE Hy
          generalize bandE (l.take k) (nm, ss) (decide (k + 1 = l.length)) = E at Hst HbE
          have hkw : IntKind.i64.wrap ((l.length : Int) - 1) = (l.length : Int) - 1 := IntWalk.i64_in _ (by omega)
          generalize (l.take k).any (fun x => sameS x.1 nm) = an at *
          have HNm := Lib.hid (bname_calls nm X s0)
          cases hN : isName nm with
          | false =>
            have HE := Lib.hid (show checkB l = 8 by rw [Hst.out, HbE.out.trans (if_pos hN)]; rfl)
            rw [hN] at HNm
            clear hN
            go_upto_region 8 with (fail)
            rw [← HX.out]
            go_wp2_with fail
            refine HNm.out.mono ?_
            rintro e w2 ⟨rfl, rfl⟩
            go_wp2
            go_ret
            exact ⟨ret_int HE.out.symm, HwX.out⟩
          | true =>
            rw [hN] at HNm
            have HbE := Lib.hid (HbE.out.trans (if_neg (by rw [hN]; decide)))
            clear hN
            cases an with
            | true =>
              have HE := Lib.hid (show checkB l = 10 by rw [Hst.out, HbE.out.trans (if_pos rfl)]; rfl)
              go_upto_region 8 with (fail)
              rw [← HX.out]
              go_wp2_with fail
              refine HNm.out.mono ?_
              rintro e w2 ⟨rfl, rfl⟩
              go_wp2_with fail
              refine (HC.out X (Below.refl _ _)).mono ?_
              rintro e w3 ⟨rfl, hb3⟩
              have Hb3 := Lib.hid (HwX.out.trans (hb3.mono HwX.out.size))
              go_wp2
              go_ret
              exact ⟨ret_int HE.out.symm, Hb3.out⟩
            | false =>
              have HbE := Lib.hid (HbE.out.trans (if_neg (by decide)))
              by_cases hlast : k + 1 = l.length
              · have hla : ((k : Int) == (l.length : Int) - 1) = true := beq_iff_eq.2 (by omega)
                by_cases hs8 : 0 < ss.length
                · have HE := Lib.hid (show checkB l = 8 by rw [Hst.out, HbE.out.trans ((if_pos (decide_eq_true hlast)).trans (if_pos hs8))]; rfl)
                  have hs8' : (0 : Int) < (ss.length : Int) := by omega
                  clear hlast
                  go_upto_region 8 with (fail)
                  rw [← HX.out]
                  go_wp2_with fail
                  refine HNm.out.mono ?_
                  rintro e w2 ⟨rfl, rfl⟩
                  go_wp2_with fail
                  refine (HC.out X (Below.refl _ _)).mono ?_
                  rintro e w3 ⟨rfl, hb3⟩
                  obtain ⟨z0, z1⟩ := HM.out w3 hb3
                  have Hb3 := Lib.hid (HwX.out.trans (hb3.mono HwX.out.size))
                  clear y0 y1
                  go_wp2
                  go_ret
                  exact ⟨ret_int HE.out.symm, Hb3.out⟩
                · have HE := Lib.hid (show checkB l = bandsE (l.take (k + 1)) (l.drop (k + 1)) by rw [Hst.out, HbE.out.trans ((if_pos (decide_eq_true hlast)).trans (if_neg hs8))]; rfl)
                  have hs8' : ¬ (0 : Int) < (ss.length : Int) := by omega
                  clear hlast
                  go_upto_region 8 with (fail)
                  rw [← HX.out]
                  go_wp2_with fail
                  refine HNm.out.mono ?_
                  rintro e w2 ⟨rfl, rfl⟩
                  go_wp2_with fail
                  refine (HC.out X (Below.refl _ _)).mono ?_
                  rintro e w3 ⟨rfl, hb3⟩
                  obtain ⟨z0, z1⟩ := HM.out w3 hb3
                  have Hb3 := Lib.hid (HwX.out.trans (hb3.mono HwX.out.size))
                  clear y0 y1
                  go_wp2
                  exact ⟨⟨k + 1, by omega, by go_num, HE.out, Hb3.out⟩, by simp [intOf]; omega⟩
              · have hla : ((k : Int) == (l.length : Int) - 1) = false := beq_eq_false_iff_ne.2 (by omega)
                have HbE := Lib.hid (HbE.out.trans (if_neg (by rw [decide_eq_false hlast]; decide)))
                clear hlast
                by_cases hse : slotsE ss = 0
                · have HE := Lib.hid (show checkB l = bandsE (l.take (k + 1)) (l.drop (k + 1)) by rw [Hst.out, HbE.out, if_neg (not_not_intro hse)])
                  have HSE := Lib.hid hse
                  clear hse
                  go_upto_region 8 with (fail)
                  rw [← HX.out]
                  go_wp2_with fail
                  refine HNm.out.mono ?_
                  rintro e w2 ⟨rfl, rfl⟩
                  go_wp2_with fail
                  refine (HC.out X (Below.refl _ _)).mono ?_
                  rintro e w3 ⟨rfl, hb3⟩
                  obtain ⟨z0, z1⟩ := HM.out w3 hb3
                  clear y0 y1
                  go_wp2_with fail
                  refine (HS.out w3 hb3).mono ?_
                  rintro e w4 ⟨rfl, hb4⟩
                  rw [HSE.out]
                  have Hb4 := Lib.hid (HwX.out.trans ((hb3.trans (hb4.mono hb3.size)).mono HwX.out.size))
                  go_wp2
                  exact ⟨⟨k + 1, by omega, by go_num, HE.out, Hb4.out⟩, by simp [intOf]; omega⟩
                · have HE := Lib.hid (show checkB l = slotsE ss by rw [Hst.out, HbE.out, if_pos hse])
                  have hse2 : (slotsE ss != 0) = true := bne_iff_ne.2 hse
                  clear hse
                  go_upto_region 8 with (fail)
                  rw [← HX.out]
                  go_wp2_with fail
                  refine HNm.out.mono ?_
                  rintro e w2 ⟨rfl, rfl⟩
                  go_wp2_with fail
                  refine (HC.out X (Below.refl _ _)).mono ?_
                  rintro e w3 ⟨rfl, hb3⟩
                  obtain ⟨z0, z1⟩ := HM.out w3 hb3
                  clear y0 y1
                  go_wp2_with fail
                  refine (HS.out w3 hb3).mono ?_
                  rintro e w4 ⟨rfl, hb4⟩
                  have Hb4 := Lib.hid (HwX.out.trans ((hb3.trans (hb4.mono hb3.size)).mono HwX.out.size))
                  go_wp2
                  go_ret
                  exact ⟨ret_int HE.out.symm, Hb4.out⟩
        · have HE := Lib.hid (show checkB l = 0 by rw [Hn.out, bandsE_end l k (by omega)])
          go_wp2
          go_ret
          exact ⟨ret_int HE.out.symm, hb⟩
end Go.Proofs.Ytnekgkmlodeckaa

namespace Go.Proofs.Ytnekgkmlodeckaa
open Go.RowKit

set_option maxRecDepth 100000 in
set_option maxHeartbeats 1600000 in
theorem indexS_calls (v : Value) (l : List Sl) (w : World) (h : SlsAt w v l) (p : Sl → Bool) (g : Nat) (lb : Array Value) (eg : ∀ args w, (callFunc g args).run Try.prog w = .ok (.enter g args) w)
    (hp : ∀ (W : World) (x : Sl), Below w.heap.size w W → x ∈ l → Calls Try.prog g (#[.agg #[.int .i64 x.1, .int .i64 x.2.1, .int .i64 x.2.2]] ++ lb) W fun e w' => e = .returned (.bool (p x)) ∧ Below W.heap.size W w') :
    Calls Try.prog 126 #[v, .func (.func g) #[] lb] w (IdxTo p l w) := by
  have hh := h
  obtain ⟨av, cap, rfl, hlc, hm, -⟩ := h
  have hm := hm.1
  unfold maxLen at hm
  have Hp := Lib.hid hp
  clear hp
  go_enter Try.func126, Try.ntmps126
  go_wp2_with fail
  go_loopw [5, 8] (fun _ i wr => ∃ k : Nat, k ≤ l.length ∧ i = .int .i64 k ∧ (l.take k).any p = false ∧ Below w.heap.size w wr) (fun _ i _ => l.length - (intOf i).toNat)
  case atStart => exact ⟨0, Nat.zero_le _, rfl, rfl, Below.refl _ _⟩
  case round =>
    obtain ⟨k, hk, rfl, hn, hb⟩ := hrel
    have Hn := Lib.hid hn
    clear hn
    by_cases hlt : k < l.length
    · obtain ⟨av2, cap2, e2, -, -, hx⟩ := hh.below hb
      cases e2
      obtain ⟨b, o, rfl, hB, hx⟩ := hx (by rintro rfl; cases hlt)
      obtain ⟨c0, c1, c2⟩ := hx k hlt
      have hk0 : (0 : Int) ≤ (k : Int) := Int.natCast_nonneg _
      have hk1 : (k : Int) < (l.length : Int) := by omega
      have HF := Lib.hid (fun h2 => any_take_false (p := p) hlt Hn.out h2)
      have HT := Lib.hid (fun h2 => any_hit (p := p) hlt h2)
      have hcall := Hp.out wr l[k] hb (List.getElem_mem hlt)
      clear hx
      generalize l[k] = y at *
      cases hE : p y with
      | true =>
        rw [hE] at hcall
        have Hcall := Lib.hid hcall
        clear hcall
        have Hb := Lib.hid hb
        go_wp2_with fail
        refine Hcall.out.mono ?_
        rintro e w' ⟨rfl, hb'⟩
        go_wp2
        go_ret
        exact ⟨k, rfl, by rw [HT.out hE]; exact decide_eq_true hk0, Hb.out.trans (hb'.mono Hb.out.size)⟩
      | false =>
        rw [hE] at hcall
        have Hcall := Lib.hid hcall
        clear hcall
        have Hb := Lib.hid hb
        go_wp2_with fail
        refine Hcall.out.mono ?_
        rintro e w' ⟨rfl, hb'⟩
        go_wp2
        exact ⟨⟨k + 1, by omega, by go_num, HF.out hE, Hb.out.trans (hb'.mono Hb.out.size)⟩, by simp [intOf]; omega⟩
    · have HE := Lib.hid (any_end (by omega) Hn.out)
      go_wp2
      go_ret
      exact ⟨-1, rfl, by rw [HE.out]; rfl, hb⟩

set_option maxHeartbeats 400000 in
theorem containsS_calls (v : Value) (l : List Sl) (w : World) (h : SlsAt w v l) (p : Sl → Bool) (g : Nat) (lb : Array Value) (eg : ∀ args w, (callFunc g args).run Try.prog w = .ok (.enter g args) w)
    (hp : ∀ (W : World) (x : Sl), Below w.heap.size w W → x ∈ l → Calls Try.prog g (#[.agg #[.int .i64 x.1, .int .i64 x.2.1, .int .i64 x.2.2]] ++ lb) W fun e w' => e = .returned (.bool (p x)) ∧ Below W.heap.size W w') :
    Calls Try.prog 95 #[v, .func (.func g) #[] lb] w (BoolTo (l.any p) w) := by
  have Hc := Lib.hid (indexS_calls v l w h p g lb eg hp)
  clear hp
  obtain ⟨av, cap, rfl, -, -, -⟩ := h
  go_enter Try.func95, Try.ntmps95
  go_wp2_with fail
  refine Hc.out.mono ?_
  rintro e w1 ⟨i, rfl, hi, hb⟩
  have Hi := Lib.hid hi
  clear hi
  by_cases h0 : 0 ≤ i
  · go_wp2
    go_ret
    exact ⟨ret_bool (by rw [← Hi.out]; try simp [h0]), hb⟩
  · go_wp2
    go_ret
    exact ⟨ret_bool (by rw [← Hi.out]; try simp [h0]), hb⟩


/-- The bits that two numbers have in common. -/
def andI (a b : Int) : Int := bits BinOp.and IntKind.i64 a b
theorem andI_all : ∀ d : Fin 256, ∀ q : Fin 8, (andI (d.val : Int) (2 ^ q.val) != 0) = decide ((d.val : Int) / 2 ^ q.val % 2 = 1) := by decide +kernel
theorem andI_bit (d : Int) (q : Nat) (h0 : 1 ≤ d) (h1 : d ≤ 255) (hq : q < 8) : (andI d (2 ^ q) != 0) = decide (d / 2 ^ q % 2 = 1) := by
  have h := andI_all ⟨d.toNat, by omega⟩ ⟨q, hq⟩
  simp only at h
  rw [show ((d.toNat : Nat) : Int) = d by omega] at h
  exact h

set_option maxRecDepth 100000 in
set_option maxHeartbeats 1600000 in
theorem find1_calls (x : Sl) (q : Nat) (m : Int) (B C : Nat) (W : World) (hx : slotOk x = true) (hq : q < 8) (hB : B < W.heap.size) (hC : C < W.heap.size) (hb : W.cell? ⟨B, 0, none⟩ = some (.int .i64 (2 ^ q))) (hc : W.cell? ⟨C, 0, none⟩ = some (.int .i64 m)) :
    Calls Try.prog 94 #[.agg #[.int .i64 x.1, .int .i64 x.2.1, .int .i64 x.2.2], .pointer (some ⟨B, 0, none⟩), .pointer (some ⟨C, 0, none⟩)] W fun e w' => e = .returned (.bool (inSl q m x)) ∧ Below W.heap.size W w' := by
  obtain ⟨d, f, t⟩ := x
  obtain ⟨g1, g2, -, -, -⟩ := slot_good hx
  have HB := Lib.hid (andI_bit d q g1 g2 hq)
  have HR := Lib.hid (show inSl q m (d, f, t) = (decide (d / 2 ^ q % 2 = 1) && decide (f ≤ m ∧ m < t)) from rfl)
  dsimp only
  have hne : ¬ B = W.heap.size := by omega
  have hne2 : ¬ C = W.heap.size := by omega
  have Ha := Lib.hid (fun o => (Below.refl W.heap.size W).alloc (Nat.le_refl _) o)
  generalize (2 : Int) ^ q = bq at *
  clear g1 g2 hx hq
  go_enter Try.func94, Try.ntmps94
  go_wp2
  all_goals
    go_ret
    refine ⟨ret_bool ?_, Ha.out _⟩
    rw [HR.out, ← HB.out]
    unfold andI
    first
      | (simp_all; done)
      | (simp_all; omega)

theorem ret_str {a b : ByteArray} (h : a = b) : Ending.returned (.string a) = Ending.returned (.string b) := by rw [h]
def StrTo (s : ByteArray) (w : World) (e : Ending) (w' : World) : Prop := e = .returned (.string s) ∧ Below w.heap.size w w'

theorem last_get (l : List Bn) (h : l.length - 1 < l.length) : lastB l = l[l.length - 1].1 := by
  unfold lastB
  rw [List.getLast?_eq_getElem?, List.getElem?_eq_getElem h]
  rfl

set_option maxRecDepth 100000 in
set_option maxHeartbeats 6400000 in
theorem find_calls (v : Value) (l : List Bn) (q : Nat) (m : Int) (w : World) (h : BnsAt w v l) (hq : q < 8) (hall : ∀ b ∈ l, b.2.all slotOk = true) (hne : 0 < l.length) :
    Calls Try.prog 58 #[v, .int .i64 (2 ^ q), .int .i64 m] w (StrTo (findB (lastB l) q m l) w) := by
  have eg : ∀ args w, (callFunc 94 args).run Try.prog w = .ok (.enter 94 args) w := enters_of Try.func94 (by kernel_rfl) rfl
  have hh := h
  obtain ⟨av, cap, rfl, hlc, hm, -⟩ := h
  have hm := hm.1
  unfold maxLen at hm
  obtain ⟨X, hX⟩ : ∃ X, X = (w.alloc (Obj.cells #[Value.int .i64 (2 ^ q)] 3)).alloc (Obj.cells #[Value.int .i64 m] 3) := ⟨_, rfl⟩
  have hwX : Below w.heap.size w X := by rw [hX]; exact ((Below.refl _ _).alloc (Nat.le_refl _) _).alloc (by simp) _
  have hzX : w.heap.size + 1 < X.heap.size := by rw [hX]; simp
  have rB : X.heap[w.heap.size]? = some (Obj.cells #[Value.int .i64 (2 ^ q)] 3) := by
    rw [hX]
    exact (((Below.refl _ (w.alloc (Obj.cells #[Value.int .i64 (2 ^ q)] 3))).alloc (Nat.le_refl _) _).block _ (by simp)).trans (heap_alloc_new _ _)
  have rC : X.heap[w.heap.size + 1]? = some (Obj.cells #[Value.int .i64 m] 3) := by
    rw [hX]
    have := heap_alloc_new (w.alloc (Obj.cells #[Value.int .i64 (2 ^ q)] 3)) (Obj.cells #[Value.int .i64 m] 3)
    simpa using this
  have HM := Lib.hid (show ∀ w', Below X.heap.size X w' → w'.cell? ⟨w.heap.size, 0, none⟩ = some (.int .i64 (2 ^ q)) ∧ w'.cell? ⟨w.heap.size + 1, 0, none⟩ = some (.int .i64 m) from fun w' hb =>
    ⟨cell_of_row w' _ 0 _ _ _ ((hb.block _ (by omega)).trans rB), cell_of_row w' _ 0 _ _ _ ((hb.block _ hzX).trans rC)⟩)
  have HLast := Lib.hid (last_get l (by omega))
  have Hall := Lib.hid hall
  have HX := Lib.hid hX
  have HwX := Lib.hid hwX
  have hhX := hh.below hwX
  have HQ := Lib.hid hq
  clear hX rB rC hall hwX hh hq
  go_enter Try.func58, Try.ntmps58
  go_upto_region 1 with (fail)
  rw [← HX.out]
  go_wp2_with fail
  go_loopw [9, 13] (fun _ i wr => ∃ k : Nat, k ≤ l.length ∧ i = .int .i64 k ∧ findB (lastB l) q m l = findB (lastB l) q m (l.drop k) ∧ Below X.heap.size X wr) (fun _ i _ => l.length - (intOf i).toNat)
  case atStart => exact ⟨0, Nat.zero_le _, rfl, rfl, Below.refl _ _⟩
  case round =>
    obtain ⟨k, hk, rfl, hn, hb⟩ := hrel
    have Hn := Lib.hid hn
    have hwb := HwX.out.trans (hb.mono HwX.out.size)
    clear hn
    by_cases hlt : k < l.length
    · have Hst := Lib.hid (Hn.out.trans (findB_drop (lastB l) q m l k hlt))
      obtain ⟨av2, cap2, e2, -, -, hx⟩ := hhX.below hb
      cases e2
      obtain ⟨b, o, rfl, hB, hx⟩ := hx (by rintro rfl; cases hlt)
      obtain ⟨⟨c0, s0⟩, sv, c1, hs⟩ := hx k hlt
      have hk0 : (0 : Int) ≤ (k : Int) := Int.natCast_nonneg _
      have hk1 : (k : Int) < (l.length : Int) := by omega
      have hok := Hall.out l[k] (List.getElem_mem hlt)
      clear hx
      generalize l[k] = y at *
      obtain ⟨nm, ss⟩ := y
      dsimp only at c0 c1 hs s0 hok Hst
      have hs0 := hs
      obtain ⟨asv, cs, rfl, -, -, -⟩ := hs0
      obtain ⟨Y, hY⟩ : ∃ Y, Y = wr.alloc (Obj.cells #[Value.string nm, .slice asv ss.length cs] 86) := ⟨_, rfl⟩
      have hbY : Below wr.heap.size wr Y := by rw [hY]; exact (Below.refl _ _).alloc (Nat.le_refl _) _
      have hXY := hb.trans (hbY.mono hb.size)
      have hzY : wr.heap.size < Y.heap.size := by rw [hY]; simp
      have rY : Y.heap[wr.heap.size]? = some (Obj.cells #[Value.string nm, .slice asv ss.length cs] 86) := by rw [hY]; exact heap_alloc_new _ _
      have HMY := Lib.hid (show ∀ w', Below Y.heap.size Y w' → w'.cell? ⟨wr.heap.size, 0, none⟩ = some (.string nm) ∧ w'.cell? ⟨wr.heap.size, 1, none⟩ = some (.slice asv ss.length cs) from fun w' hb => by
        have q := (hb.block _ hzY).trans rY
        exact ⟨cell_of_row w' _ 0 _ _ _ q, cell_of_row w' _ 1 _ _ _ q⟩)
      have HC := Lib.hid (containsS_calls (.slice asv ss.length cs) ss Y (hs.below hbY) (inSl q m) _ #[.pointer (some ⟨w.heap.size, 0, none⟩), .pointer (some ⟨w.heap.size + 1, 0, none⟩)] eg (fun W2 x hW2 hx => by
        have h2 := hXY.trans (hW2.mono hXY.size)
        obtain ⟨e1, e2⟩ := HM.out W2 h2
        have h3 := h2.size
        exact find1_calls x q m w.heap.size (w.heap.size + 1) W2 ((List.all_eq_true.1 hok) x hx) HQ.out (by omega) (by omega) e1 e2))
      have HY := Lib.hid hY
      obtain ⟨y0, y1⟩ := HMY.out Y (Below.refl _ _)
      have HXY := Lib.hid hXY
      clear hY hs rY hXY hB hok
      generalize ss.any (inSl q m) = an at *
      cases an with
      | true =>
        have HE := Lib.hid (show findB (lastB l) q m l = nm by rw [Hst.out]; rfl)
        go_upto_region 5 with (fail)
        rw [← HY.out]
        go_wp2_with fail
        refine HC.out.mono ?_
        rintro e w3 ⟨rfl, hb3⟩
        obtain ⟨z0, z1⟩ := HMY.out w3 hb3
        clear y0 y1
        have Hb3 := Lib.hid (HXY.out.trans (hb3.mono HXY.out.size))
        go_wp2
        go_ret
        exact ⟨ret_str HE.out.symm, HwX.out.trans (Hb3.out.mono HwX.out.size)⟩
      | false =>
        have HE := Lib.hid (show findB (lastB l) q m l = findB (lastB l) q m (l.drop (k + 1)) by rw [Hst.out]; rfl)
        go_upto_region 5 with (fail)
        rw [← HY.out]
        go_wp2_with fail
        refine HC.out.mono ?_
        rintro e w3 ⟨rfl, hb3⟩
        have Hb3 := Lib.hid (HXY.out.trans (hb3.mono HXY.out.size))
        go_wp2
        exact ⟨⟨k + 1, by omega, by go_num, HE.out, Hb3.out⟩, by simp [intOf]; omega⟩
    · have HE := Lib.hid (show findB (lastB l) q m l = lastB l by rw [Hn.out, List.drop_eq_nil_of_le (by omega)]; rfl)
      obtain ⟨av2, cap2, e2, -, -, hx⟩ := hhX.below hb
      cases e2
      obtain ⟨b, o, rfl, hB, hx⟩ := hx (by rintro rfl; cases hne)
      obtain ⟨⟨c0, s0⟩, -⟩ := hx (l.length - 1) (by omega)
      rw [← HLast.out] at c0
      have hj5 : IntKind.i64.wrap ((l.length : Int) - 1) = (l.length : Int) - 1 := IntWalk.i64_in _ (by omega)
      have hj6 : ((l.length : Int) - 1).toNat = l.length - 1 := by omega
      have hj0 : (0 : Int) ≤ (l.length : Int) - 1 := by omega
      have hj1 : (l.length : Int) - 1 < (l.length : Int) := by omega
      clear hx
      go_wp2
      go_ret
      exact ⟨ret_str HE.out.symm, hwb⟩

/-- The band of an instant, or the empty text. -/
def atB (l : List Bn) (hol : List Int) (t : Int) : ByteArray := if checkB l = 0 ∧ 0 ≤ t ∧ t < 12622780800 then bandAt l hol t else { data := #[] }

set_option maxRecDepth 100000 in
set_option maxHeartbeats 3200000 in
theorem at_calls (v vh : Value) (l : List Bn) (hol : List Int) (t : Int) (w : World) (h : BnsAt w v l) (hh : IcsAt w vh hol) :
    Calls Try.prog 26 #[v, vh, .int .i64 t] w (StrTo (atB l hol t) w) := by
  have HC := Lib.hid (check_calls v l w h)
  have Hb := Lib.hid (fun w1 (hb : Below w.heap.size w w1) (h0 : 0 ≤ t / 86400) (h1 : t / 86400 < 146097) => bit_calls vh hol (t / 86400) w1 (hh.below hb) h0 h1)
  have Hf := Lib.hid (fun w1 (hb : Below w.heap.size w w1) q m hq ha hn => find_calls v l q m w1 (h.below hb) hq ha hn)
  obtain ⟨av, cap, rfl, -, -, -⟩ := h
  obtain ⟨avh, caph, rfl, -, -, -⟩ := hh
  by_cases hz : checkB l = 0
  · by_cases h0 : 0 ≤ t
    · by_cases h1 : t < 12622780800
      · have HE := Lib.hid (show atB l hol t = findB (lastB l) (bitQ hol (t / 86400)) (t % 86400 / 60) l from if_pos ⟨hz, h0, h1⟩)
        obtain ⟨hn, -, hall, -⟩ := checkB_ok hz
        have Hf := Lib.hid (fun w1 hb => Hf.out w1 hb (bitQ hol (t / 86400)) (t % 86400 / 60) (bitQ_lt _ _) (fun b hb => (hall b hb).2.1) hn)
        have Hb := Lib.hid (fun w1 hb => Hb.out w1 hb (by omega) (by omega))
        have ht1 : t.tdiv 86400 = t / 86400 := Int.tdiv_eq_ediv_of_nonneg h0
        have ht2 : t.tmod 86400 = t % 86400 := Int.tmod_eq_emod_of_nonneg h0
        have ht3 : (t % 86400).tdiv 60 = t % 86400 / 60 := Int.tdiv_eq_ediv_of_nonneg (by omega)
        have hw1 : IntKind.i64.wrap (t / 86400) = t / 86400 := IntWalk.i64_in _ (by omega)
        have hw2 : IntKind.i64.wrap (t % 86400) = t % 86400 := IntWalk.i64_in _ (by omega)
        have hw3 : IntKind.i64.wrap (t % 86400 / 60) = t % 86400 / 60 := IntWalk.i64_in _ (by omega)
        rw [hz] at HC
        clear hz hn hall
        generalize bitQ hol (t / 86400) = q at *
        go_enter Try.func26, Try.ntmps26
        go_wp2_with fail
        refine HC.out.mono ?_
        rintro e w1 ⟨rfl, hb1⟩
        go_wp2_with fail
        refine (Hb.out w1 hb1).mono ?_
        rintro e w2 ⟨rfl, hbx⟩
        have hb2 := hb1.trans (hbx.mono hb1.size)
        clear hbx
        go_wp2_with fail
        refine (Hf.out w2 hb2).mono ?_
        rintro e w3 ⟨rfl, hbx⟩
        have hb3 := hb2.trans (hbx.mono hb2.size)
        go_wp2
        go_ret
        exact ⟨ret_str HE.out.symm, hb3⟩
      · have HE := Lib.hid (show atB l hol t = { data := #[] } from if_neg (fun h => h1 h.2.2))
        rw [hz] at HC
        clear hz
        go_enter Try.func26, Try.ntmps26
        go_wp2_with fail
        refine HC.out.mono ?_
        rintro e w1 ⟨rfl, hb1⟩
        go_wp2
        go_ret
        exact ⟨ret_str HE.out.symm, hb1⟩
    · have HE := Lib.hid (show atB l hol t = { data := #[] } from if_neg (fun h => h0 h.2.1))
      rw [hz] at HC
      clear hz
      go_enter Try.func26, Try.ntmps26
      go_wp2_with fail
      refine HC.out.mono ?_
      rintro e w1 ⟨rfl, hb1⟩
      go_wp2
      go_ret
      exact ⟨ret_str HE.out.symm, hb1⟩
  · have HE := Lib.hid (show atB l hol t = { data := #[] } from if_neg (fun h => hz h.1))
    have hz2 : (checkB l != 0) = true := bne_iff_ne.2 hz
    clear hz
    go_enter Try.func26, Try.ntmps26
    go_wp2_with fail
    refine HC.out.mono ?_
    rintro e w1 ⟨rfl, hb1⟩
    go_wp2
    go_ret
    exact ⟨ret_str HE.out.symm, hb1⟩
end Go.Proofs.Ytnekgkmlodeckaa

namespace Go.Proofs.Ytnekgkmlodeckaa
open Go.RowKit

set_option maxRecDepth 100000 in
set_option maxHeartbeats 6400000 in
theorem rat_calls (v vh : Value) (l : List Bn) (hol : List Int) (t : Int) (w : World) (h : BnsAt w v l) (hh : IcsAt w vh hol) (hall : ∀ b ∈ l, b.2.all slotOk = true) (hne : 0 < l.length) (h0 : 0 ≤ t) (h1 : t < 12622780800) :
    Calls Try.prog 69 #[v, vh, .int .i64 t] w (StrTo (bandAt l hol t) w) := by
  have hB := h
  have Hb := Lib.hid (rbit_calls vh hol (t / 86400) w hh (by omega) (by omega))
  have HE0 := Lib.hid (show bandAt l hol t = findB (lastB l) (bitQ hol (t / 86400)) (t % 86400 / 60) l from rfl)
  have Hq8 := Lib.hid (bitQ_lt hol (t / 86400))
  obtain ⟨av, cap, rfl, hlc, hm, -⟩ := h
  obtain ⟨avh, caph, rfl, -, -, -⟩ := hh
  have hm := hm.1
  unfold maxLen at hm
  have HLast := Lib.hid (last_get l (by omega))
  have Hall := Lib.hid hall
  have ht1 : t.tdiv 86400 = t / 86400 := Int.tdiv_eq_ediv_of_nonneg h0
  have ht2 : t.tmod 86400 = t % 86400 := Int.tmod_eq_emod_of_nonneg h0
  have ht3 : (t % 86400).tdiv 60 = t % 86400 / 60 := Int.tdiv_eq_ediv_of_nonneg (by omega)
  have hw1 : IntKind.i64.wrap (t / 86400) = t / 86400 := IntWalk.i64_in _ (by omega)
  have hw2 : IntKind.i64.wrap (t % 86400) = t % 86400 := IntWalk.i64_in _ (by omega)
  have hw3 : IntKind.i64.wrap (t % 86400 / 60) = t % 86400 / 60 := IntWalk.i64_in _ (by omega)
  generalize bitQ hol (t / 86400) = q at *
  clear hall
  go_enter Try.func69, Try.ntmps69
  go_wp2_with fail
  refine Hb.out.mono ?_
  rintro e w1 ⟨rfl, hb1⟩
  go_wp2_with fail
  clear ht1 ht2 ht3 hw1 hw2 hw3
  generalize t % 86400 / 60 = m at *
  go_loopw [9] (fun i wr => ∃ k : Nat, k ≤ l.length ∧ i = .int .i64 k ∧ findB (lastB l) q m l = findB (lastB l) q m (l.drop k) ∧ Below w.heap.size w wr) (fun i _ => l.length - (intOf i).toNat)
  case atStart => exact ⟨0, Nat.zero_le _, rfl, rfl, hb1⟩
  case round =>
    obtain ⟨k, hk, rfl, hn, hb⟩ := hrel
    obtain ⟨wq, rfl⟩ : ∃ wq : World, wq = wr := ⟨_, rfl⟩
    have Hn := Lib.hid hn
    clear hn
    by_cases hlt : k < l.length
    · have Hst := Lib.hid (Hn.out.trans (findB_drop (lastB l) q m l k hlt))
      obtain ⟨av2, cap2, e2, -, -, hx⟩ := id hB
      cases e2
      obtain ⟨b, o, rfl, hBb, hx⟩ := hx (by rintro rfl; cases hlt)
      obtain ⟨⟨c0, s0⟩, sv, c1, hs⟩ := hx k hlt
      have Hc := Lib.hid (show ∀ w', Below w.heap.size w w' → w'.cell? ⟨b, o + k * 2, none⟩ = some (.string l[k].1) ∧ w'.cell? ⟨b, o + k * 2 + 1, none⟩ = some sv from fun w' h => ⟨(h.cell (p := ⟨b, _, none⟩) hBb).trans c0, (h.cell (p := ⟨b, _, none⟩) hBb).trans c1⟩)
      have hok := Hall.out l[k] (List.getElem_mem hlt)
      have hk0 : (0 : Int) ≤ (k : Int) := Int.natCast_nonneg _
      have hk1 : (k : Int) < (l.length : Int) := by omega
      clear hx c0 c1
      generalize l[k] = y at *
      obtain ⟨nm, ss⟩ := y
      dsimp only at hs hok Hst Hc
      have Hok := Lib.hid hok
      have hs0 := hs
      obtain ⟨asv, cs, rfl, hsc, hms, -⟩ := hs0
      have hms := hms.1
      unfold maxLen at hms
      clear hok
      go_wp2_with fail
      go_loopw [10] (fun i wr => ∃ j : Nat, j ≤ ss.length ∧ i = .int .i64 j ∧ (ss.take j).any (inSl q m) = false ∧ Below w.heap.size w wr) (fun i _ => ss.length - (intOf i).toNat)
      case atStart => exact ⟨0, Nat.zero_le _, rfl, rfl, hb⟩
      case round =>
        obtain ⟨j, hj, rfl, ha, hbi⟩ := hrel
        have Ha := Lib.hid ha
        clear ha
        obtain ⟨c0, c1⟩ := Hc.out wr hbi
        by_cases hlj : j < ss.length
        · obtain ⟨av3, cap3, e3, -, -, hx⟩ := hs.below hbi
          cases e3
          obtain ⟨b3, o3, rfl, hB3, hx⟩ := hx (by rintro rfl; cases hlj)
          obtain ⟨d0, d1, d2⟩ := hx j hlj
          have hj0 : (0 : Int) ≤ (j : Int) := Int.natCast_nonneg _
          have hj1 : (j : Int) < (ss.length : Int) := by omega
          have hsl := (List.all_eq_true.1 Hok.out) ss[j] (List.getElem_mem hlj)
          have HF := Lib.hid (fun h2 => any_take_false (p := inSl q m) hlj Ha.out h2)
          have HT := Lib.hid (fun h2 => any_hit (p := inSl q m) hlj h2)
          clear hx
          generalize ss[j] = z at *
          obtain ⟨d, f, u⟩ := z
          dsimp only at d0 d1 d2
          obtain ⟨g1, g2, -, -, -⟩ := slot_good hsl
          dsimp only at g1 g2
          have HR := Lib.hid (show inSl q m (d, f, u) = (decide (d / 2 ^ q % 2 = 1) && decide (f ≤ m ∧ m < u)) from rfl)
          obtain ⟨Y, hY⟩ : ∃ Y, Y = wr.alloc (Obj.cells #[Value.int .i64 d, .int .i64 f, .int .i64 u] 96) := ⟨_, rfl⟩
          have hbY : Below wr.heap.size wr Y := by rw [hY]; exact (Below.refl _ _).alloc (Nat.le_refl _) _
          have rY : Y.heap[wr.heap.size]? = some (Obj.cells #[Value.int .i64 d, .int .i64 f, .int .i64 u] 96) := by rw [hY]; exact heap_alloc_new _ _
          have y0 := cell_of_row Y _ 0 _ _ _ rY
          have y1 := cell_of_row Y _ 1 _ _ _ rY
          have y2 := cell_of_row Y _ 2 _ _ _ rY
          have HY := Lib.hid hY
          have HbY := Lib.hid (hbi.trans (hbY.mono hbi.size))
          clear hY rY hbY hsl
          obtain ⟨e0, e1⟩ := Hc.out Y HbY.out
          have hmin : min q 64 = q := Nat.min_eq_left (by have := Hq8.out; omega)
          have hdq : 0 ≤ d / 2 ^ q := Int.ediv_nonneg (by omega) (Int.le_of_lt (Int.pow_pos (by decide)))
          have htm : (d / 2 ^ min q 64).tmod 2 = d / 2 ^ q % 2 := by rw [hmin]; exact Int.tmod_eq_emod_of_nonneg hdq
          have Htm := Lib.hid htm
          clear hmin htm hdq
          by_cases hA : d / 2 ^ q % 2 = 1
          · have hA1 : (d / 2 ^ min q 64).tmod 2 = 1 := Htm.out.trans hA
            by_cases hf : f ≤ m
            · by_cases hu : m < u
              · have HE := Lib.hid (show bandAt l hol t = nm by rw [HE0.out, Hst.out, if_pos (HT.out (by rw [HR.out, decide_eq_true hA, decide_eq_true ⟨hf, hu⟩]; rfl))])
                clear hA
                go_upto_region 9 with (fail)
                rw [← HY.out]
                go_wp2
                go_ret
                exact ⟨ret_str HE.out.symm, HbY.out⟩
              · have HE := Lib.hid (HF.out (by rw [HR.out, decide_eq_false (show ¬ (f ≤ m ∧ m < u) from fun h => hu h.2)]; simp))
                clear hA
                go_upto_region 9 with (fail)
                rw [← HY.out]
                go_wp2
                exact ⟨⟨j + 1, by omega, by go_num, HE.out, HbY.out⟩, by simp [intOf]; omega⟩
            · have HE := Lib.hid (HF.out (by rw [HR.out, decide_eq_false (show ¬ (f ≤ m ∧ m < u) from fun h => hf h.1)]; simp))
              clear hA
              go_upto_region 9 with (fail)
              rw [← HY.out]
              go_wp2
              exact ⟨⟨j + 1, by omega, by go_num, HE.out, HbY.out⟩, by simp [intOf]; omega⟩
          · have hA1 : (d / 2 ^ min q 64).tmod 2 = 0 := Htm.out.trans (by omega)
            have HE := Lib.hid (HF.out (by rw [HR.out, decide_eq_false hA]; simp))
            clear hA
            go_upto_region 9 with (fail)
            rw [← HY.out]
            go_wp2
            exact ⟨⟨j + 1, by omega, by go_num, HE.out, HbY.out⟩, by simp [intOf]; omega⟩
        · have HE := Lib.hid (show findB (lastB l) q m l = findB (lastB l) q m (l.drop (k + 1)) by rw [Hst.out, any_end (by omega) Ha.out]; rfl)
          go_wp2
          exact ⟨⟨k + 1, by omega, by go_num, HE.out, hbi⟩, by simp [intOf]; omega⟩
    · have HE := Lib.hid (show bandAt l hol t = lastB l by rw [HE0.out, Hn.out, List.drop_eq_nil_of_le (by omega)]; rfl)
      obtain ⟨av2, cap2, e2, -, -, hx⟩ := hB.below hb
      cases e2
      obtain ⟨b, o, rfl, hBb, hx⟩ := hx (by rintro rfl; cases hne)
      obtain ⟨⟨c0, s0⟩, -⟩ := hx (l.length - 1) (by omega)
      rw [← HLast.out] at c0
      have hj5 : IntKind.i64.wrap ((l.length : Int) - 1) = (l.length : Int) - 1 := IntWalk.i64_in _ (by omega)
      have hj6 : ((l.length : Int) - 1).toNat = l.length - 1 := by omega
      have hj0 : (0 : Int) ≤ (l.length : Int) - 1 := by omega
      have hj1 : (l.length : Int) - 1 < (l.length : Int) := by omega
      clear hx
      go_wp2
      go_ret
      exact ⟨ret_str HE.out.symm, hb⟩

set_option maxRecDepth 100000 in
set_option maxHeartbeats 3200000 in
theorem rAt_calls (v vh : Value) (l : List Bn) (hol : List Int) (t : Int) (w : World) (h : BnsAt w v l) (hh : IcsAt w vh hol) :
    Calls Try.prog 34 #[v, vh, .int .i64 t] w (StrTo (atB l hol t) w) := by
  have HC := Lib.hid (rcheck_calls v l w h)
  have Hf := Lib.hid (fun w1 (hb : Below w.heap.size w w1) ha hn h0 h1 => rat_calls v vh l hol t w1 (h.below hb) (hh.below hb) ha hn h0 h1)
  obtain ⟨av, cap, rfl, -, -, -⟩ := h
  obtain ⟨avh, caph, rfl, -, -, -⟩ := hh
  by_cases hz : checkB l = 0
  · by_cases h0 : 0 ≤ t
    · by_cases h1 : t < 12622780800
      · have HE := Lib.hid (show atB l hol t = bandAt l hol t from if_pos ⟨hz, h0, h1⟩)
        obtain ⟨hn, -, hall, -⟩ := checkB_ok hz
        have Hf := Lib.hid (fun w1 hb => Hf.out w1 hb (fun b hb => (hall b hb).2.1) hn h0 h1)
        rw [hz] at HC
        clear hz hn hall
        go_enter Try.func34, Try.ntmps34
        go_wp2_with fail
        refine HC.out.mono ?_
        rintro e w1 ⟨rfl, hb1⟩
        go_wp2_with fail
        refine (Hf.out w1 hb1).mono ?_
        rintro e w3 ⟨rfl, hbx⟩
        have hb3 := hb1.trans (hbx.mono hb1.size)
        go_wp2
        go_ret
        exact ⟨ret_str HE.out.symm, hb3⟩
      · have HE := Lib.hid (show atB l hol t = { data := #[] } from if_neg (fun h => h1 h.2.2))
        rw [hz] at HC
        clear hz
        go_enter Try.func34, Try.ntmps34
        go_wp2_with fail
        refine HC.out.mono ?_
        rintro e w1 ⟨rfl, hb1⟩
        go_wp2
        go_ret
        exact ⟨ret_str HE.out.symm, hb1⟩
    · have HE := Lib.hid (show atB l hol t = { data := #[] } from if_neg (fun h => h0 h.2.1))
      rw [hz] at HC
      clear hz
      go_enter Try.func34, Try.ntmps34
      go_wp2_with fail
      refine HC.out.mono ?_
      rintro e w1 ⟨rfl, hb1⟩
      go_wp2
      go_ret
      exact ⟨ret_str HE.out.symm, hb1⟩
  · have HE := Lib.hid (show atB l hol t = { data := #[] } from if_neg (fun h => hz h.1))
    have hz2 : (checkB l != 0) = true := bne_iff_ne.2 hz
    clear hz
    go_enter Try.func34, Try.ntmps34
    go_wp2_with fail
    refine HC.out.mono ?_
    rintro e w1 ⟨rfl, hb1⟩
    go_wp2
    go_ret
    exact ⟨ret_str HE.out.symm, hb1⟩
end Go.Proofs.Ytnekgkmlodeckaa
