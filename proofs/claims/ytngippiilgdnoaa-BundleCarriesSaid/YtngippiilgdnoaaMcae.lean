/-
  An argument that is a period, opened.
-/
import Derived.ProofKit
import Derived.Deep.Slices
import Derived.Deep.Strs
import Derived.OpenShut
import Derived.Test.YtngippiilgdnoaaMcroot
set_option maxRecDepth 100000
set_option maxHeartbeats 25600000
namespace Go.Proofs.Ytngippiilgdnoaa
open Go.ChangeShapes Go.WideShapes Go.ChangeAt Go.RowKit Go.Deep
theorem Try.own : ownKnob Try.prog.godebug = none := by kernel_rfl
theorem Try.laidOut : laidOutB Try.prog = true := by kernel_rfl
section
variable {H : Type} {enc : TypeId × Value → H} {P : Program}
theorem trodAll_below (hlo : laidOutB P = true) {W W' : World} (hb : Below W.heap.size W W') : ∀ (ts : List TypeId) (vs : List Value) (ds : List (DataW H)) (ps : List MemPlace),
 (∀ t ∈ ts, P.readableRec t = true ∧ t < P.types.size) → DataW.TrodAll enc P W 0 (fun _ => true) true ts vs ds ps → (∀ x ∈ ps, x.block < W.heap.size) →
 DataW.TrodAll enc P W' 0 (fun b => decide (b < W.heap.size)) true ts vs ds ps
 | [], [], [], _, _, h, _ => h
 | t :: ts, v :: vs, d :: ds, ps, hr, h, hlt => by
  obtain ⟨p, q, h1, h2, rfl⟩ := h
  obtain ⟨r1, r2⟩ := hr t (List.mem_cons_self)
  exact ⟨p, q, Below.trod hlo r1 r2 h1 hb (fun x hx => hlt x (List.mem_append_left _ hx)),
   trodAll_below hlo hb ts vs ds q (fun t ht => hr t (List.mem_cons_of_mem _ ht)) h2 (fun x hx => hlt x (List.mem_append_right _ hx)), rfl⟩
 | [], _ :: _, _, _, _, h, _ => h.elim
 | [], [], _ :: _, _, _, h, _ => h.elim
 | _ :: _, [], _, _, _, h, _ => h.elim
 | _ :: _, _ :: _, [], _, _, h, _ => h.elim
theorem law_post {f : Func} {s : ChangeSpec} {tb : TypeId} {W W' : World} {args : Array Value} {ds gs : List (DataW H)} {before : List MemPlace} (hlo : laidOutB P = true)
 (hr : ∀ t ∈ f.params.toList, P.readableRec t = true ∧ t < P.types.size) (hv : s.vars = []) (ht : f.resultTypes = #[tb]) (htb : P.underlying tb = some .bool)
 (h1 : (s.fn H (ds ++ [])).results = [.lit (.bool true)]) (h2 : (s.fn H (ds ++ [])).args = ds) (h3 : (s.fn H (ds ++ [])).vars = [])
 (hW : DataW.Whole enc P f.params.toList s.vars false W args.toList ds gs before) (hb : Below W.heap.size W W') :
 s.post enc P f false true false false W args (.bool true) W' := by
 have hW' := hW
 obtain ⟨p, q, hA, hV, rfl, hz, hn⟩ := hW
 rw [hv] at hV
 obtain ⟨rfl, rfl⟩ := trodVars_none hV
 have hlt : ∀ x ∈ p ++ ([] : List MemPlace), x.block < W.heap.size := fun x hx => hW'.lt x hx
 simp only [List.append_nil] at *
 refine ⟨ds, [], p, [], p, [], hW', ?_, ?_, ?_, ?_, fun h => by cases h⟩
 · simp only [List.append_nil]
   rw [h1, ht]
   exact trodAll_mk1 (shut_bool htb true)
 · simp only [List.append_nil]
   rw [h2]
   exact trodAll_below hlo hb _ _ _ _ hr hA hlt
 · simp only [List.append_nil]
   rw [h3, hv]
   rfl
 exact hb.frame _
theorem struct_field {w : World} {base : Nat} {sp : Nat → Bool} {held : Bool} {fuel : Nat} {t : TypeId} {fs : Array Field} {cs : List Value} {x : DataW H × List MemPlace} (ht : P.underlying t = some (.struct fs)) (h : DataW.trod enc P w base sp held fuel t cs = some x)
 (i o : Nat) (ti : TypeId) (c : Nat) (hm : (fs[i]?).map (fun f => (f.offset, f.type)) = some (o, ti)) (hc : P.cellsOf ti = c) : ∃ n y, DataW.trod enc P w base sp held n ti ((cs.drop o).take c) = some y := by
 obtain ⟨xs, n, -, -, -, hl, hx⟩ := DataW.trod_struct ht h
 obtain ⟨f, hf, hff⟩ := Option.map_eq_some_iff.1 hm
 simp only [Prod.mk.injEq] at hff
 obtain ⟨rfl, rfl⟩ := hff
 rw [← hc]
 have hi : i < fs.size := (ltB9 hf)
 exact ⟨n, xs[i], (hx i f hf).trans (List.getElem?_eq_getElem (by omega))⟩
theorem int_field {w : World} {base : Nat} {sp : Nat → Bool} {held : Bool} {fuel : Nat} {t ti : TypeId} {fs : Array Field} {cs : List Value} {x : DataW H × List MemPlace} (ht : P.underlying t = some (.struct fs)) (h : DataW.trod enc P w base sp held fuel t cs = some x)
 (hti : P.underlying ti = some (.int .i64)) (hc : P.cellsOf ti = 1) (i o : Nat) (hm : (fs[i]?).map (fun f => (f.offset, f.type)) = some (o, ti)) : ∃ n, (cs.drop o).take 1 = [.int .i64 n] ∧ -9223372036854775808 ≤ n ∧ n ≤ 9223372036854775807 := by
 obtain ⟨n, y, hy⟩ := struct_field ht h i o ti 1 hm hc
 obtain ⟨k, hk, -, hw⟩ := DataW.trod_int hti hy
 exact ⟨k, hk, bounds_i64 hw⟩
theorem string_field {w : World} {base : Nat} {sp : Nat → Bool} {held : Bool} {fuel : Nat} {t ti : TypeId} {fs : Array Field} {cs : List Value} {x : DataW H × List MemPlace} (ht : P.underlying t = some (.struct fs)) (h : DataW.trod enc P w base sp held fuel t cs = some x)
 (hti : P.underlying ti = some .string) (hc : P.cellsOf ti = 1) (i o : Nat) (hm : (fs[i]?).map (fun f => (f.offset, f.type)) = some (o, ti)) : ∃ s : ByteArray, (cs.drop o).take 1 = [.string s] ∧ s.size ≤ maxLen := by
 obtain ⟨n, y, hy⟩ := struct_field ht h i o ti 1 hm hc
 obtain ⟨k, hk, -, hw⟩ := DataW.trod_string hti hy
 exact ⟨k, hk, hw⟩
theorem bool_field {w : World} {base : Nat} {sp : Nat → Bool} {held : Bool} {fuel : Nat} {t ti : TypeId} {fs : Array Field} {cs : List Value} {x : DataW H × List MemPlace} (ht : P.underlying t = some (.struct fs)) (h : DataW.trod enc P w base sp held fuel t cs = some x)
 (hti : P.underlying ti = some .bool) (hc : P.cellsOf ti = 1) (i o : Nat) (hm : (fs[i]?).map (fun f => (f.offset, f.type)) = some (o, ti)) : ∃ b : Bool, (cs.drop o).take 1 = [.bool b] := by
 obtain ⟨n, y, hy⟩ := struct_field ht h i o ti 1 hm hc
 obtain ⟨k, hk, -⟩ := DataW.trod_bool hti hy
 exact ⟨k, hk⟩
end
theorem Try.periodCells : Try.prog.cellsOf 24 = 2 := by kernel_rfl
theorem Try.intCells2 : Try.prog.cellsOf 3 = 1 := by kernel_rfl
theorem open_period {H : Type} {enc : TypeId × Value → H} {W : World} {sp : Nat → Bool} {fuel : Nat} {cs : List Value} {x : DataW H × List MemPlace} (hl : cs.length = 2) (h : DataW.trod enc Try.prog W 0 sp true fuel 24 cs = some x) :
 ∃ f t : Int, cs = [.int .i64 f, .int .i64 t] ∧ (-9223372036854775808 ≤ f ∧ f ≤ 9223372036854775807) ∧ (-9223372036854775808 ≤ t ∧ t ≤ 9223372036854775807) := by
 obtain ⟨f, e0, b0⟩ := int_field Try.underlying24 h Try.underlying3 Try.intCells2 0 0 rfl
 obtain ⟨t, e1, b1⟩ := int_field Try.underlying24 h Try.underlying3 Try.intCells2 1 1 rfl
 match cs, hl with
 | [v0, v1], _ =>
  simp only [List.drop, List.take, List.cons.injEq, and_true] at e0 e1
  subst e0; subst e1
  exact ⟨f, t, rfl, b0, b1⟩
end Go.Proofs.Ytngippiilgdnoaa
