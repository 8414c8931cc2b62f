/-
  The walk of product.Names.
-/
import Derived.Test.YtmijdmchhlcblaaAt19
namespace Go.Proofs.Ytmijdmchhlcblaa
open Go.RowKit

/-- One product more, for the names at an instant. -/
def nameStep (t : Int) (N : List ByteArray) (p : Pd) : List ByteArray :=
  if p.fm ≤ t ∧ (N.getLast?.map (fun a => eqS a p.nm)).getD false = false then N ++ [p.nm] else N
def namesL (l : List Pd) (t : Int) : List ByteArray := l.foldl (nameStep t) []

theorem names_snoc (l : List Pd) (t : Int) (k : Nat) (h : k < l.length) : (l.take (k + 1)).foldl (nameStep t) [] = nameStep t ((l.take k).foldl (nameStep t) []) l[k] := by
  rw [List.take_succ_eq_append_getElem h, List.foldl_append]; rfl

def NamesTo (w : World) (N : List ByteArray) (e : Ending) (w' : World) : Prop := ∃ v, e = .returned v ∧ StrsOff (w.heap.size ≤ ·) w' v N ∧ Below w.heap.size w w'

set_option maxRecDepth 100000 in
set_option maxHeartbeats 3200000 in
theorem names_calls (v : Value) (l : List Pd) (t : Int) (w : World) (h : PdsAt w v l) (hl : l.length ≤ 4096) :
    Calls Try.prog 25 #[v, .int .i64 t] w (NamesTo w (namesL l t)) := by
  have hh := h
  obtain ⟨av, cap, rfl, -, -, -⟩ := h
  go_enter Try.func25, Try.ntmps25
  go_wp2_with fail
  go_loopw [5, 10] (fun v i wr => ∃ (k : Nat) (N : List ByteArray), k ≤ l.length ∧ i = .int .i64 k ∧ wr.ownsRow w.heap.size 9 1 v N.length (N.map Value.string) ∧ (l.take k).foldl (nameStep t) [] = N ∧ N.length ≤ k ∧ (∀ s ∈ N, s.size ≤ maxLen) ∧ Below w.heap.size w wr) (fun _ i _ => l.length - (intOf i).toNat)
  case atStart => exact ⟨0, [], Nat.zero_le _, rfl, ⟨rfl, Or.inl ⟨rfl, rfl⟩⟩, rfl, Nat.le_refl _, by simp, Below.refl _ _⟩
  case round =>
    obtain ⟨k, N, hk, rfl, hown, hN, hle, hsz, hb⟩ := hrel
    by_cases hlt : k < l.length
    · obtain ⟨av', cap', hv, -, -, hs⟩ := hh.below hb
      cases hv
      obtain ⟨b, o, rfl, hB, hs⟩ := hs (by rintro rfl; cases hlt)
      obtain ⟨⟨c0, s0⟩, c1, c2, ⟨c3, s3⟩, c4, bv, c5, hbs⟩ := hs k hlt
      have hst := names_snoc l t k hlt
      rw [hN] at hst
      clear hs
      generalize l[k] = x at *
      obtain ⟨ab, cb, rfl, -, -, -⟩ := hbs
      obtain ⟨nm, fm, fe, ct, pro, bs⟩ := x
      dsimp only at *
      have hk0 : (0 : Int) ≤ (k : Int) := Int.natCast_nonneg _
      have hk1 : (k : Int) < (l.length : Int) := by omega
      have hbz := hb.size
      obtain ⟨ao, co, rfl, hco, -⟩ := own_shape hown
      have Hown := Lib.hid hown
      have Hsz := Lib.hid hsz
      have hst0 := Lib.hid (strs_own hown hsz)
      clear hown hsz hN
      obtain ⟨X, hX⟩ : ∃ X, X = wr.alloc (Obj.cells #[Value.string nm, Value.int .i64 fm, Value.int .i64 fe, Value.string ct, Value.bool pro, Value.slice ab bs.length cb] 33) := ⟨_, rfl⟩
      have hbX : Below wr.heap.size wr X := by rw [hX]; go_grown
      have x0 : X.cell? ⟨wr.heap.size, 0, none⟩ = some (Value.string nm) := by rw [hX]; simp [go_sem]
      have x1 : X.cell? ⟨wr.heap.size, 1, none⟩ = some (Value.int .i64 fm) := by rw [hX]; simp [go_sem]
      have HX := Lib.hid hX
      clear hX
      by_cases hfm : fm ≤ t
      · by_cases hn0 : N = []
        · subst hn0
          have HT := Lib.hid (show (l.take (k + 1)).foldl (nameStep t) [] = [] ++ [nm] by rw [hst, nameStep, if_pos ⟨hfm, rfl⟩])
          clear hst
          simp only [List.length_nil] at *
          obtain ⟨i0, hi, hz0, hz1, hz2⟩ := info_parts Try.stringInfo
          have Hi := Lib.hid (And.intro hi (And.intro hz0 (And.intro hz1 hz2)))
          clear hi hz0 hz1 hz2
          have hfd : decide (fm ≤ t) = true := decide_eq_true hfm
          have hl0 : (Int.ofNat 0 : Int) = 0 := rfl
          have hl1 : ((0 : Nat) : Int) = 0 := rfl
          go_wp2_with fail
          rw [← HX.out]
          go_quiet (fail)
          obtain ⟨w1, hw1⟩ : ∃ w1, w1 = X.drewN nq := ⟨_, rfl⟩
          have hb1 : Below w.heap.size w w1 := by rw [hw1]; exact below_drewN (hb.trans (hbX.mono hbz)) _
          have hs1 : w.heap.size ≤ w1.heap.size := hb1.size
          have Hown1 := Lib.hid (show w1.ownsRow w.heap.size 9 1 (.slice ao 0 co) 0 (([] : List ByteArray).map Value.string) from ownsRow_below Hown.out (by rw [hw1]; exact below_drewN hbX _))
          have z0 : w1.cell? ⟨wr.heap.size, 0, none⟩ = some (Value.string nm) := by rw [hw1]; exact x0
          rw [← hw1]
          clear hw1 x0 x1
          go_wp2_with (at_builtin; refine wpList_append_own _ rfl _ _ 38 rfl w.heap.size 9 i0 _ 1 16 Try.underlying38 Hi.out.1 Hi.out.2.1 Hi.out.2.2.1 Hi.out.2.2.2 rfl (by decide) _ _ _ rfl (Hown1.out.alloc _) ⟨w1.heap.size, 0, none⟩ 1 1 [.string nm] rfl rfl ?c1 ?c2 ?c3 ?c4 ?c5 ?_)
          case c1 => exact World.news_of_block (cs := #[.string nm]) (t := 9) (fr := (0, 0)) (heap_alloc_new _ _)
          case c2 => simp [Value.oneCell']
          case c3 => unfold maxLen; omega
          case c4 => omega
          case c5 => simp; omega
          intro v' w2 hown2 hgrow _
          have hb2 := (hb1.alloc hs1 (Obj.cells #[.string nm] 9)).grown hgrow (by simp; omega) (fun g hg => by
            have := (ownsRow_block Hown1.out g hg).1
            exact this)
          have Hown2 := Lib.hid hown2
          clear hown2 hgrow
          go_wp2
          exact ⟨⟨k + 1, ([] : List ByteArray) ++ [nm], by omega, by go_num, by rw [List.map_append, List.length_append]; exact Hown2.out, HT.out, by simp only [List.length_append, List.length_cons, List.length_nil]; omega, (fun s hs => by
            rcases List.mem_append.1 hs with hs | hs
            · exact Hsz.out s hs
            · rw [List.mem_singleton.1 hs]; exact s0), hb2⟩, by simp [intOf]; omega⟩
        · have hpos : 0 < N.length := List.length_pos_iff.2 hn0
          obtain ⟨av2, cap2, hv2, -, -, hc2⟩ := hst0.out
          cases hv2
          obtain ⟨g, o2, rfl, hg0, hgB, hgs⟩ := hc2 hn0
          obtain ⟨hlast, hlsz⟩ := hgs (N.length - 1) (by omega)
          rw [Nat.mul_one] at hlast
          have hgl : N.getLast? = some N[N.length - 1] := by rw [List.getLast?_eq_getElem?, List.getElem?_eq_getElem]
          have hst2 : (l.take (k + 1)).foldl (nameStep t) [] = if eqS N[N.length - 1] nm = false then N ++ [nm] else N := by
            rw [hst, nameStep, hgl]
            cases hcc : eqS N[N.length - 1] nm <;> simp [hfm, hcc]
          clear hst hgs hc2 hgl
          generalize N[N.length - 1] = lastN at *
          generalize hm : N.length = m at *
          have hfd : decide (fm ≤ t) = true := decide_eq_true hfm
          have hj1 : IntKind.i64.wrap (↑m - 1) = (m : Int) - 1 := IntWalk.i64_in _ (by omega)
          have hj2 : ((m : Int) - 1).toNat = m - 1 := by omega
          have hm0 : ((m : Int) == 0) = false := by simp; omega
          have hm1 : decide ((m : Int) = 0) = false := by simp; omega
          have hm2 : ¬ (m : Int) = 0 := by omega
          have hm3 : ¬ m = 0 := by omega
          have hj3 : (0 : Int) ≤ (m : Int) - 1 := by omega
          have hj4 : (m : Int) - 1 < (m : Int) := by omega
          have hx1 : X.cell? ⟨g, o2 + (m - 1), none⟩ = some (Value.string lastN) := (World.cell?_of_block (a := ⟨g, o2 + (m - 1), none⟩) (hbX.block g hgB)).trans hlast
          have Hm := Lib.hid hm
          clear hm
          cases hee : eqS lastN nm with
          | true =>
            have HT := Lib.hid (show (l.take (k + 1)).foldl (nameStep t) [] = N by rw [hst2, hee]; rfl)
            have hee1 : (lastN.data.toList == nm.data.toList) = true := by have h := hee; unfold eqS at h; rw [Lib.toList_data, Lib.toList_data] at h; exact h
            have hee2 : (lastN.toList == nm.toList) = true := hee
            clear hst2 hee
            go_wp2_with fail
            rw [← HX.out]
            go_quiet (fail)
            obtain ⟨w1, hw1⟩ : ∃ w1, w1 = X.drewN nq := ⟨_, rfl⟩
            have hb1 : Below w.heap.size w w1 := by rw [hw1]; exact below_drewN (hb.trans (hbX.mono hbz)) _
            have Hown1 := Lib.hid (show w1.ownsRow w.heap.size 9 1 (.slice (some ⟨g, o2, none⟩) m co) m (N.map Value.string) from ownsRow_below Hown.out (by rw [hw1]; exact below_drewN hbX _))
            rw [← hw1]
            clear hw1 x0 x1 hx1 hj1 hj2 hj3 hj4 hm0 hm1 hm2 hm3
            go_wp2
            exact ⟨⟨k + 1, N, by omega, by go_num, by rw [Hm.out]; exact Hown1.out, HT.out, by rw [Hm.out]; omega, Hsz.out, hb1⟩, by simp [intOf]; omega⟩
          | false =>
            have HT := Lib.hid (show (l.take (k + 1)).foldl (nameStep t) [] = N ++ [nm] by rw [hst2, hee]; rfl)
            have hee1 : (lastN.data.toList == nm.data.toList) = false := by have h := hee; unfold eqS at h; rw [Lib.toList_data, Lib.toList_data] at h; exact h
            have hee2 : (lastN.toList == nm.toList) = false := hee
            clear hst2 hee
            obtain ⟨i0, hi, hz0, hz1, hz2⟩ := info_parts Try.stringInfo
            have Hi := Lib.hid (And.intro hi (And.intro hz0 (And.intro hz1 hz2)))
            clear hi hz0 hz1 hz2
            go_wp2_with fail
            rw [← HX.out]
            go_quiet (fail)
            obtain ⟨w1, hw1⟩ : ∃ w1, w1 = X.drewN nq := ⟨_, rfl⟩
            have hb1 : Below w.heap.size w w1 := by rw [hw1]; exact below_drewN (hb.trans (hbX.mono hbz)) _
            have hs1 : w.heap.size ≤ w1.heap.size := hb1.size
            have Hown1 := Lib.hid (show w1.ownsRow w.heap.size 9 1 (.slice (some ⟨g, o2, none⟩) m co) m (N.map Value.string) from ownsRow_below Hown.out (by rw [hw1]; exact below_drewN hbX _))
            have z0 : w1.cell? ⟨wr.heap.size, 0, none⟩ = some (Value.string nm) := by rw [hw1]; exact x0
            rw [← hw1]
            clear hw1 x0 x1 hx1 hj1 hj2 hj3 hj4 hm0 hm1 hm2 hm3
            go_wp2_with (at_builtin; refine wpList_append_own _ rfl _ _ 38 rfl w.heap.size 9 i0 _ 1 16 Try.underlying38 Hi.out.1 Hi.out.2.1 Hi.out.2.2.1 Hi.out.2.2.2 rfl (by decide) _ _ _ rfl (Hown1.out.alloc _) ⟨w1.heap.size, 0, none⟩ 1 1 [.string nm] rfl rfl ?c1 ?c2 ?c3 ?c4 ?c5 ?_)
            case c1 => exact World.news_of_block (cs := #[.string nm]) (t := 9) (fr := (0, 0)) (heap_alloc_new _ _)
            case c2 => simp [Value.oneCell']
            case c3 => unfold maxLen; omega
            case c4 => omega
            case c5 => simp; omega
            intro v' w2 hown2 hgrow _
            have hb2 := (hb1.alloc hs1 (Obj.cells #[.string nm] 9)).grown hgrow (by simp; omega) (fun g hg => by
              have := (ownsRow_block Hown1.out g hg).1
              exact this)
            have Hown2 := Lib.hid hown2
            clear hown2 hgrow
            go_wp2
            exact ⟨⟨k + 1, N ++ [nm], by omega, by go_num, by rw [List.map_append, List.length_append, Hm.out]; exact Hown2.out, HT.out, by simp only [List.length_append, List.length_cons, List.length_nil]; rw [Hm.out]; omega, (fun s hs => by
              rcases List.mem_append.1 hs with hs | hs
              · exact Hsz.out s hs
              · rw [List.mem_singleton.1 hs]; exact s0), hb2⟩, by simp [intOf]; omega⟩
      · have HT := Lib.hid (show (l.take (k + 1)).foldl (nameStep t) [] = N by rw [hst, nameStep, if_neg (fun h => hfm h.1)])
        have hfd : decide (fm ≤ t) = false := decide_eq_false hfm
        clear hst
        go_wp2_with fail
        rw [← HX.out]
        go_quiet (fail)
        obtain ⟨w1, hw1⟩ : ∃ w1, w1 = X.drewN nq := ⟨_, rfl⟩
        have hb1 : Below w.heap.size w w1 := by rw [hw1]; exact below_drewN (hb.trans (hbX.mono hbz)) _
        have hs1 : w.heap.size ≤ w1.heap.size := hb1.size
        have Hown1 := Lib.hid (show w1.ownsRow w.heap.size 9 1 (.slice ao N.length co) N.length (N.map Value.string) from ownsRow_below Hown.out (by rw [hw1]; exact below_drewN hbX _))
        have z0 : w1.cell? ⟨wr.heap.size, 0, none⟩ = some (Value.string nm) := by rw [hw1]; exact x0
        rw [← hw1]
        clear hw1 x0 x1
        go_wp2
        exact ⟨⟨k + 1, N, by omega, by go_num, Hown1.out, HT.out, by omega, Hsz.out, hb1⟩, by simp [intOf]; omega⟩
    · have hall : l.take k = l := List.take_of_length_le (by omega)
      rw [hall] at hN
      have hst := Lib.hid (strs_own hown hsz)
      have HN := Lib.hid hN
      obtain ⟨ao, co, rfl, -, -⟩ := own_shape hown
      clear hown hsz hN
      go_wp2
      go_ret
      exact ⟨_, rfl, by rw [show namesL l t = N from HN.out]; exact hst.out.keep (Nat.le_refl _) (fun b h1 h2 => ⟨h1, rfl⟩), hb⟩
end Go.Proofs.Ytmijdmchhlcblaa
