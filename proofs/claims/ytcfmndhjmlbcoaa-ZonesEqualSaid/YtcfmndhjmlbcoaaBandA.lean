/-
  Bands, slots and pieces in memory.
-/
import Derived.Test.YtcfmndhjmlbcoaaBandP
import Derived.Test.YtcfmndhjmlbcoaaR04b
namespace Go.Proofs.Ytcfmndhjmlbcoaa
open Go.RowKit

/-- A slot in three cells. -/
def SlR (w : World) (b o : Nat) (s : Sl) : Prop := w.cell? ⟨b, o, none⟩ = some (.int .i64 s.1) ∧ w.cell? ⟨b, o + 1, none⟩ = some (.int .i64 s.2.1) ∧ w.cell? ⟨b, o + 2, none⟩ = some (.int .i64 s.2.2)
theorem SlR.stays : Stays SlR := fun w w' b _ _ hb hB ⟨h0, h1, h2⟩ =>
  have c : ∀ j, w'.cell? ⟨b, j, none⟩ = w.cell? ⟨b, j, none⟩ := fun j => hb.cell (p := ⟨b, j, none⟩) hB
  ⟨(c _).trans h0, (c _).trans h1, (c _).trans h2⟩
def SlsAt (w : World) (v : Value) (l : List Sl) : Prop := SliceAt 3 SlR w v l
theorem SlsAt.below {w w' : World} {v : Value} {l : List Sl} (h : SlsAt w v l) (hb : Below w.heap.size w w') : SlsAt w' v l := SliceAt.below SlR.stays h hb

/-- A band in two cells. -/
def BnR (w : World) (b o : Nat) (x : Bn) : Prop := StrR w b o x.1 ∧ ∃ v, w.cell? ⟨b, o + 1, none⟩ = some v ∧ SlsAt w v x.2
theorem BnR.stays : Stays BnR := fun w w' b _ _ hb hB ⟨h0, v, h1, hv⟩ =>
  ⟨StrR.stays _ _ _ _ _ hb hB h0, v, (hb.cell (p := ⟨b, _, none⟩) hB).trans h1, hv.below hb⟩
def BnsAt (w : World) (v : Value) (l : List Bn) : Prop := SliceAt 2 BnR w v l
theorem BnsAt.below {w w' : World} {v : Value} {l : List Bn} (h : BnsAt w v l) (hb : Below w.heap.size w w') : BnsAt w' v l := SliceAt.below BnR.stays h hb

/-- A piece in three cells. -/
def PcR (w : World) (b o : Nat) (x : Pc) : Prop := w.cell? ⟨b, o, none⟩ = some (.string x.1) ∧ w.cell? ⟨b, o + 1, none⟩ = some (.int .i64 x.2.1) ∧ w.cell? ⟨b, o + 2, none⟩ = some (.int .i64 x.2.2)
theorem PcR.stays : Stays PcR := fun w w' b _ _ hb hB ⟨h0, h1, h2⟩ =>
  have c : ∀ j, w'.cell? ⟨b, j, none⟩ = w.cell? ⟨b, j, none⟩ := fun j => hb.cell (p := ⟨b, j, none⟩) hB
  ⟨(c _).trans h0, (c _).trans h1, (c _).trans h2⟩
def PcsAt (w : World) (v : Value) (l : List Pc) : Prop := SliceAt 3 PcR w v l
theorem PcsAt.below {w w' : World} {v : Value} {l : List Pc} (h : PcsAt w v l) (hb : Below w.heap.size w w') : PcsAt w' v l := SliceAt.below PcR.stays h hb
def pcCells (p : Pc) : List Value := [.string p.1, .int .i64 p.2.1, .int .i64 p.2.2]
theorem PcsAt.own {w : World} {base : Nat} {e : TypeId} {v : Value} {l : List Pc} (h : w.ownsRow base e 3 v l.length (l.flatMap pcCells)) : PcsAt w v l :=
  SliceAt.own pcCells (fun _ => rfl) h fun g o i hi hc => ⟨hc 0 (by decide), hc 1 (by decide), hc 2 (by decide)⟩

theorem any_take_false {α : Type} {p : α → Bool} {l : List α} {k : Nat} (h : k < l.length) (h1 : (l.take k).any p = false) (h2 : p l[k] = false) : (l.take (k + 1)).any p = false := by
  rw [List.take_succ_eq_append_getElem h, List.any_append, h1]; simp [h2]
theorem any_hit {α : Type} {p : α → Bool} {l : List α} {k : Nat} (h : k < l.length) (h2 : p l[k] = true) : l.any p = true := List.any_eq_true.2 ⟨l[k], List.getElem_mem h, h2⟩
theorem any_end {α : Type} {p : α → Bool} {l : List α} {k : Nat} (h : l.length ≤ k) (h1 : (l.take k).any p = false) : l.any p = false := by rwa [List.take_of_length_le h] at h1
end Go.Proofs.Ytcfmndhjmlbcoaa
