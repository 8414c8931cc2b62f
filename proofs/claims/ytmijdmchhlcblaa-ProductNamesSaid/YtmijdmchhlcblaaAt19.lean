/-
  The walk of product.At.
-/
import Derived.Test.YtmijdmchhlcblaaFilterP
import Derived.Test.YtmijdmchhlcblaaClone19
namespace Go.Proofs.Ytmijdmchhlcblaa
open Go.RowKit

/-- The versions of a product up to an instant. -/
def keepAt (s : ByteArray) (t : Int) (x : Pd) : Bool := eqS x.nm s && decide (x.fm ≤ t)

/-- The version at an instant. -/
def atL (l : List Pd) (s : ByteArray) (t : Int) : Option Pd := (l.filter (keepAt s t)).getLast?

/-- A list of products with few bundles. -/
def FewP (l : List Pd) : Prop := l.length ≤ 4096 ∧ ∀ p ∈ l, p.bs.length ≤ 100 ∧ ∀ b ∈ p.bs, b.zs.length ≤ 100

def AtYes (w : World) (p : Pd) (e : Ending) (w' : World) : Prop := ∃ bv, e = .returned (.tuple #[pdVal p bv, .bool true]) ∧ BdsAt w' bv p.bs ∧ Below w.heap.size w w'
def AtNo (w : World) (e : Ending) (w' : World) : Prop := e = .returned (.tuple #[.agg #[.string ⟨#[]⟩, .int .i64 0, .int .i64 0, .string ⟨#[]⟩, .bool false, .slice none 0 0], .bool false]) ∧ Below w.heap.size w w'

set_option maxRecDepth 100000 in
set_option maxHeartbeats 1600000 in
theorem at_no (v : Value) (l : List Pd) (s : ByteArray) (t : Int) (w : World) (h : PdsAt w v l) (hf : FewP l) (ha : atL l s t = none) :
    Calls Try.prog 21 #[v, .string s, .int .i64 t] w (AtNo w) := by
  have hh := h
  obtain ⟨av, cap, rfl, -, -, -⟩ := h
  have hF : l.filter (keepAt s t) = [] := List.getLast?_eq_none_iff.1 ha
  obtain ⟨W, hW⟩ : ∃ W, W = ((w.alloc (Obj.cells #[Value.string s] 9)).alloc (Obj.cells #[Value.int .i64 t] 3)).alloc (Obj.cells #[Value.string ⟨#[]⟩, Value.int .i64 0, Value.int .i64 0, Value.string ⟨#[]⟩, Value.bool false, Value.slice none 0 0] 33) := ⟨_, rfl⟩
  have hw0 : Below w.heap.size w W := by rw [hW]; go_grown
  have hz : W.heap.size = w.heap.size + 3 := by rw [hW]; simp
  have m0 : W.cell? ⟨w.heap.size, 0, none⟩ = some (.string s) := by rw [hW]; simp [go_sem]
  have m1 : W.cell? ⟨w.heap.size + 1, 0, none⟩ = some (.int .i64 t) := by rw [hW]; simp [go_sem]
  have r2 : W.heap[w.heap.size + 2]? = some (Obj.cells #[Value.string ⟨#[]⟩, Value.int .i64 0, Value.int .i64 0, Value.string ⟨#[]⟩, Value.bool false, Value.slice none 0 0] 33) := by rw [hW]; simpa using heap_alloc_new ((w.alloc _).alloc _) _
  have Hc := Lib.hid (filterAt_calls _ l s t w.heap.size (w.heap.size + 1) W (hh.below hw0) hf.1 m0 m1)
  have HW := Lib.hid hW
  have Hr := Lib.hid r2
  have Hz := Lib.hid hz
  clear hW m0 m1 r2 hz hh
  go_enter Try.func21, Try.ntmps21
  go_wp2_with fail
  rw [← HW.out]
  refine Hc.out.mono ?_
  rintro e w1 ⟨v1, rfl, hp, hb⟩
  rw [show l.filter (fun x : Pd => eqS x.nm s && decide (x.fm ≤ t)) = [] from hF] at hp
  obtain ⟨a1, c1, rfl, -, -, -⟩ := hp
  have q2 := (hb.block (w.heap.size + 2) (by rw [Hz.out]; omega)).trans Hr.out
  have n0 : w1.cell? ⟨w.heap.size + 2, 0, none⟩ = some (Value.string ⟨#[]⟩) := cell_of_row w1 _ 0 _ _ _ q2
  have n1 : w1.cell? ⟨w.heap.size + 2, 1, none⟩ = some (Value.int .i64 0) := cell_of_row w1 _ 1 _ _ _ q2
  have n2 : w1.cell? ⟨w.heap.size + 2, 2, none⟩ = some (Value.int .i64 0) := cell_of_row w1 _ 2 _ _ _ q2
  have n3 : w1.cell? ⟨w.heap.size + 2, 3, none⟩ = some (Value.string ⟨#[]⟩) := cell_of_row w1 _ 3 _ _ _ q2
  have n4 : w1.cell? ⟨w.heap.size + 2, 4, none⟩ = some (Value.bool false) := cell_of_row w1 _ 4 _ _ _ q2
  have n5 : w1.cell? ⟨w.heap.size + 2, 5, none⟩ = some (Value.slice none 0 0) := cell_of_row w1 _ 5 _ _ _ q2
  have e0 : w1.frozen? ⟨w.heap.size + 2, 0, none⟩ = false := by simp [World.frozen?, q2]
  have e1 : w1.frozen? ⟨w.heap.size + 2, 1, none⟩ = false := by simp [World.frozen?, q2]
  have e2 : w1.frozen? ⟨w.heap.size + 2, 2, none⟩ = false := by simp [World.frozen?, q2]
  have e3 : w1.frozen? ⟨w.heap.size + 2, 3, none⟩ = false := by simp [World.frozen?, q2]
  have e4 : w1.frozen? ⟨w.heap.size + 2, 4, none⟩ = false := by simp [World.frozen?, q2]
  have e5 : w1.frozen? ⟨w.heap.size + 2, 5, none⟩ = false := by simp [World.frozen?, q2]
  have hb2 := hw0.trans (hb.mono hw0.size)
  clear q2 hb
  simp only [List.length_nil]
  go_wp2
  refine bodyPost_ret (v := .tuple #[.agg #[.string ⟨#[]⟩, .int .i64 0, .int .i64 0, .string ⟨#[]⟩, .bool false, .slice none 0 0], .bool false]) (by simp [results, Try.results21, go_sem, n0, n1, n2, n3, n4, n5]) rfl ⟨rfl, ?_⟩
  go_grown

set_option maxRecDepth 100000 in
set_option maxHeartbeats 1600000 in
theorem at_yes (v : Value) (l : List Pd) (s : ByteArray) (t : Int) (p : Pd) (w : World) (h : PdsAt w v l) (hf : FewP l) (ha : atL l s t = some p) :
    Calls Try.prog 21 #[v, .string s, .int .i64 t] w (AtYes w p) := by
  have hh := h
  obtain ⟨av, cap, rfl, -, -, -⟩ := h
  obtain ⟨W, hW⟩ : ∃ W, W = ((w.alloc (Obj.cells #[Value.string s] 9)).alloc (Obj.cells #[Value.int .i64 t] 3)).alloc (Obj.cells #[Value.string ⟨#[]⟩, Value.int .i64 0, Value.int .i64 0, Value.string ⟨#[]⟩, Value.bool false, Value.slice none 0 0] 33) := ⟨_, rfl⟩
  have hw0 : Below w.heap.size w W := by rw [hW]; go_grown
  have hz : W.heap.size = w.heap.size + 3 := by rw [hW]; simp
  have m0 : W.cell? ⟨w.heap.size, 0, none⟩ = some (.string s) := by rw [hW]; simp [go_sem]
  have m1 : W.cell? ⟨w.heap.size + 1, 0, none⟩ = some (.int .i64 t) := by rw [hW]; simp [go_sem]
  have r2 : W.heap[w.heap.size + 2]? = some (Obj.cells #[Value.string ⟨#[]⟩, Value.int .i64 0, Value.int .i64 0, Value.string ⟨#[]⟩, Value.bool false, Value.slice none 0 0] 33) := by rw [hW]; simpa using heap_alloc_new ((w.alloc _).alloc _) _
  have Hc := Lib.hid (filterAt_calls _ l s t w.heap.size (w.heap.size + 1) W (hh.below hw0) hf.1 m0 m1)
  have hmem : p ∈ l := (List.mem_filter.1 (List.mem_of_getLast? ha)).1
  obtain ⟨hp1, hp2⟩ := hf.2 p hmem
  have Hp := Lib.hid (And.intro hp1 hp2)
  have HW := Lib.hid hW
  have Hr := Lib.hid r2
  have Hz := Lib.hid hz
  have Ha := Lib.hid ha
  have hlen := List.length_filter_le (keepAt s t) l
  have hl := hf.1
  clear hW m0 m1 r2 hz hh hp1 hp2 hf ha hmem
  go_enter Try.func21, Try.ntmps21
  go_wp2_with fail
  rw [← HW.out]
  refine Hc.out.mono ?_
  rintro e w1 ⟨v1, rfl, hp, hb⟩
  change PdsAt w1 v1 (l.filter (keepAt s t)) at hp
  have ha := Ha.out
  unfold atL at ha
  generalize l.filter (keepAt s t) = F at *
  obtain ⟨a1, c1, rfl, hFc, -, hx⟩ := hp
  have hne : F ≠ [] := by rintro rfl; cases ha
  have h0 : 0 < F.length := by cases F with
    | nil => exact absurd rfl hne
    | cons a r => simp
  obtain ⟨b, o, rfl, hB, hx⟩ := hx hne
  obtain ⟨⟨c0, s0⟩, d1, d2, ⟨d3, s3⟩, d4, bv, d5, hbs⟩ := hx (F.length - 1) (by omega)
  have ep : F[F.length - 1]'(by omega) = p := by
    have := List.getLast?_eq_getElem? (l := F)
    rw [ha, List.getElem?_eq_getElem (by omega)] at this
    exact (Option.some.inj this).symm
  rw [ep] at c0 s0 d1 d2 d3 s3 d4 hbs
  have Hcl := Lib.hid (clone19_calls p bv w1 hbs Hp.out.1 Hp.out.2)
  obtain ⟨az, cz, rfl, -, -, -⟩ := hbs
  have q2 := (hb.block (w.heap.size + 2) (by rw [Hz.out]; omega)).trans Hr.out
  have hsz := hb.size
  rw [Hz.out] at hsz
  have hb2 := hw0.trans (hb.mono hw0.size)
  have Q2 := Lib.hid q2
  have Hx := Lib.hid ep
  obtain ⟨n, hn⟩ : ∃ n, n = F.length - 1 := ⟨_, rfl⟩
  rw [← hn] at c0 d1 d2 d3 d4 d5
  have hn1 : F.length = n + 1 := by omega
  have hF0 : ((F.length : Int) == 0) = false := beq_eq_false_iff_ne.2 (by omega)
  have hn2 : ((F.length : Int) - 1) = (n : Int) := by omega
  clear hx ep q2 hb ha hn hne
  unfold pdVal at Hcl
  go_wp2_with fail
  refine Hcl.out.mono ?_
  rintro e w2 ⟨bv2, rfl, hbf, hb3⟩
  obtain ⟨a2, c2, rfl, -, -, -⟩ := id hbf
  unfold pdVal
  have q3 := (hb3.block (w.heap.size + 2) (by omega)).trans Q2.out
  have n0 : w2.cell? ⟨w.heap.size + 2, 0, none⟩ = some (Value.string ⟨#[]⟩) := cell_of_row w2 _ 0 _ _ _ q3
  have e0 : w2.frozen? ⟨w.heap.size + 2, 0, none⟩ = false := by simp [World.frozen?, q3]
  have n1 : w2.cell? ⟨w.heap.size + 2, 1, none⟩ = some (Value.int .i64 0) := cell_of_row w2 _ 1 _ _ _ q3
  have e1 : w2.frozen? ⟨w.heap.size + 2, 1, none⟩ = false := by simp [World.frozen?, q3]
  have n2 : w2.cell? ⟨w.heap.size + 2, 2, none⟩ = some (Value.int .i64 0) := cell_of_row w2 _ 2 _ _ _ q3
  have e2 : w2.frozen? ⟨w.heap.size + 2, 2, none⟩ = false := by simp [World.frozen?, q3]
  have n3 : w2.cell? ⟨w.heap.size + 2, 3, none⟩ = some (Value.string ⟨#[]⟩) := cell_of_row w2 _ 3 _ _ _ q3
  have e3 : w2.frozen? ⟨w.heap.size + 2, 3, none⟩ = false := by simp [World.frozen?, q3]
  have n4 : w2.cell? ⟨w.heap.size + 2, 4, none⟩ = some (Value.bool false) := cell_of_row w2 _ 4 _ _ _ q3
  have e4 : w2.frozen? ⟨w.heap.size + 2, 4, none⟩ = false := by simp [World.frozen?, q3]
  have n5 : w2.cell? ⟨w.heap.size + 2, 5, none⟩ = some (Value.slice none 0 0) := cell_of_row w2 _ 5 _ _ _ q3
  have e5 : w2.frozen? ⟨w.heap.size + 2, 5, none⟩ = false := by simp [World.frozen?, q3]
  have hb4 := hb2.trans (hb3.mono hb2.size)
  have hs2 := hb3.size
  have Hbf := Lib.hid hbf
  clear q3 hbf hb3 hb2 c0 d1 d2 d3 d4 d5
  go_wp2
  refine bodyPost_ret (v := .tuple #[.agg #[.string p.nm, .int .i64 p.fm, .int .i64 p.fe, .string p.ct, .bool p.pro, .slice a2 p.bs.length c2], .bool true]) (by simp [results, Try.results21, go_sem, n0, n1, n2, n3, n4, n5]) rfl ⟨.slice a2 p.bs.length c2, rfl, ?_, ?_⟩
  · have hq := Hbf.out
    exact ((((((hq.setCell (by simp; omega) _).setCell (by simp; omega) _).setCell (by simp; omega) _).setCell (by simp; omega) _).setCell (by simp; omega) _).setCell (by simp; omega) _).at
  · go_grown
end Go.Proofs.Ytmijdmchhlcblaa
