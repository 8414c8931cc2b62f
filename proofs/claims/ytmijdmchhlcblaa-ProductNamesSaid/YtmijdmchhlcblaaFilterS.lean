/-
  The walk of filter at strings, by product.name.
-/
import Derived.Test.YtmijdmchhlcblaaSlice
import Derived.Test.YtmijdmchhlcblaaName
import Derived.Laws.AppendOwn
import Derived.OwnWalk
import Derived.Deep.AppendLies
namespace Go.Proofs.Ytmijdmchhlcblaa
open Go.RowKit

theorem Try.stringInfo : (Try.prog.info? 9).map (fun i => (i.zero, i.size, i.bytes)) = some (some (.string ⟨#[]⟩), 1, 16) := by kernel_rfl

/-- A new list of names. -/
def FilteredTo (w : World) (l : List ByteArray) (e : Ending) (w' : World) : Prop := ∃ av cap, e = .returned (.slice av (l.filter isName).length cap) ∧ Below w.heap.size w w'

theorem filter_snoc {α : Type} (p : α → Bool) (l : List α) (k : Nat) (h : k < l.length) : (l.take (k + 1)).filter p = (l.take k).filter p ++ (if p l[k] then [l[k]] else []) := by
  rw [List.take_succ_eq_append_getElem h, List.filter_append]
  cases hp : p l[k] <;> simp [hp]

theorem filter_take_le {α : Type} (p : α → Bool) (l : List α) (k : Nat) : ((l.take k).filter p).length ≤ k := Nat.le_trans (List.length_filter_le _ _) (List.length_take_le _ _)

set_option maxHeartbeats 1600000 in
theorem filterS_calls (v : Value) (l : List ByteArray) (w : World) (h : StrsAt w v l) (hl : l.length ≤ 64) :
    Calls Try.prog 72 #[v, .func (.func 64) #[] #[]] w (FilteredTo w l) := by
  have hh := h
  obtain ⟨av, cap, rfl, -, -, hc⟩ := h
  clear hc
  go_enter Try.func72, Try.ntmps72
  go_wp2_with fail
  go_loopw [5, 10] (fun v i wr => ∃ k : Nat, k ≤ l.length ∧ i = .int .i64 k ∧ wr.ownsRow w.heap.size 9 1 v ((l.take k).filter isName).length (((l.take k).filter isName).map Value.string) ∧ Below w.heap.size w wr) (fun _ i _ => l.length - (intOf i).toNat)
  case atStart => exact ⟨0, Nat.zero_le _, rfl, ⟨rfl, Or.inl ⟨rfl, rfl⟩⟩, Below.refl _ _⟩
  case round =>
    obtain ⟨k, hk, rfl, hown, hb⟩ := hrel
    by_cases hlt : k < l.length
    · obtain ⟨av', cap', hv, -, -, hs⟩ := hh.below hb
      cases hv
      obtain ⟨b, o, rfl, hB, hs⟩ := hs (by rintro rfl; cases hlt)
      obtain ⟨hc, hsz⟩ := hs k hlt
      rw [Nat.mul_one] at hc
      have hf := filter_snoc isName l k hlt
      have hle := filter_take_le isName l k
      clear hs
      generalize l[k] = x at *
      cases hx : isName x with
      | true =>
        rw [hx, if_pos rfl] at hf
        have HF := Lib.hid hf
        have HX := Lib.hid hx
        clear hf hx
        obtain ⟨i0, hi, hz0, hz1, hz2⟩ := info_parts Try.stringInfo
        have Hi := Lib.hid (And.intro hi (And.intro hz0 (And.intro hz1 hz2)))
        have Hown := Lib.hid hown
        clear hi hz0 hz1 hz2 hown
        have hbz := hb.size
        go_wp2_with fail
        refine (name_calls x _ hsz).mono ?_
        rintro e w1 ⟨rfl, rfl⟩
        rw [HX.out]
        go_wp2_with (at_builtin; refine wpList_append_own _ rfl _ _ 38 rfl w.heap.size 9 i0 _ 1 16 Try.underlying38 Hi.out.1 Hi.out.2.1 Hi.out.2.2.1 Hi.out.2.2.2 rfl (by decide) _ _ _ rfl (Hown.out.alloc _) ⟨wr.heap.size, 0, none⟩ 1 1 [.string x] rfl rfl ?c1 ?c2 ?c3 ?c4 ?c5 ?_)
        case c1 => exact World.news_of_block (cs := #[.string x]) (t := 9) (fr := (0, 0)) (heap_alloc_new _ _)
        case c2 => simp [Value.oneCell']
        case c3 => unfold maxLen; omega
        case c4 => omega
        case c5 => simp; omega
        intro v' w1 hown1 hgrow _
        have hb1 := (hb.alloc hbz (Obj.cells #[.string x] 9)).grown hgrow (by simp; omega) (fun g hg => by
          obtain ⟨-, ho⟩ := Hown.out
          rcases ho with ⟨rfl, -⟩ | ⟨g', c', cur, rfl, hB', -⟩
          · simp [Value.ownBlock] at hg
          · simp [Value.ownBlock] at hg; omega)
        have Hown1 := Lib.hid hown1
        clear hown1 hgrow
        go_wp2
        exact ⟨⟨k + 1, by omega, by go_num, by rw [HF.out, List.map_append, List.length_append]; exact Hown1.out, hb1⟩, by simp [intOf]; omega⟩
      | false =>
        rw [hx, if_neg (by decide)] at hf
        rw [List.append_nil] at hf
        have HF := Lib.hid hf
        have HX := Lib.hid hx
        clear hf hx
        have Hown := Lib.hid hown
        clear hown
        go_wp2_with fail
        refine (name_calls x _ hsz).mono ?_
        rintro e w1 ⟨rfl, rfl⟩
        rw [HX.out]
        go_wp2
        exact ⟨⟨k + 1, by omega, by go_num, by rw [HF.out]; exact Hown.out, hb⟩, by simp [intOf]; omega⟩
    · have hall : l.take k = l := List.take_of_length_le (by omega)
      rw [hall] at hown
      obtain ⟨-, hown⟩ := hown
      rcases hown with ⟨rfl, hn⟩ | ⟨g, cap2, cur, rfl, -⟩
      · go_wp2
        go_ret
        exact ⟨none, 0, by rw [hn]; rfl, hb⟩
      · go_wp2
        go_ret
        exact ⟨_, _, rfl, hb⟩
end Go.Proofs.Ytmijdmchhlcblaa
