/-
  Agreements: what a list of them reads as.
-/
import Derived.Test.YtohmdohbmmbbkaaDoorMgam
import Derived.Test.YtohmdohbmmbbkaaDoorMgac
import Derived.Test.YtohmdohbmmbbkaaDoorMgae
namespace Go.Proofs.YtohmdohbmmbbkaaDoor
open Go.RowKit

structure Ag where
  pa : Int
  kd : Int
  ib : Bool
  fr : Int
  tt : Int
  st : List St
  cap : Int

def agVal (a : Ag) (sv : Value) : Value := .agg #[.int .i64 a.pa, .int .i64 a.kd, .bool a.ib, .int .i64 a.fr, .int .i64 a.tt, sv, .int .i64 a.cap]

/-- A nil slice is empty. -/
def NilOk (v : Value) : Prop := ∀ n cap, v = .slice none n cap → n = 0 ∧ cap = 0

/-- An agreement in seven cells. -/
def AgR (w : World) (b o : Nat) (x : Ag) : Prop :=
  w.cell? ⟨b, o, none⟩ = some (.int .i64 x.pa) ∧ w.cell? ⟨b, o + 1, none⟩ = some (.int .i64 x.kd) ∧ w.cell? ⟨b, o + 2, none⟩ = some (.bool x.ib) ∧ w.cell? ⟨b, o + 3, none⟩ = some (.int .i64 x.fr) ∧ w.cell? ⟨b, o + 4, none⟩ = some (.int .i64 x.tt) ∧
    (∃ sv, w.cell? ⟨b, o + 5, none⟩ = some sv ∧ StepsAt w sv x.st ∧ NilOk sv) ∧ w.cell? ⟨b, o + 6, none⟩ = some (.int .i64 x.cap)

theorem AgR.stays : Stays AgR := fun w w' b _ _ hb hB ⟨h0, h1, h2, h3, h4, ⟨sv, h5, hs, hn⟩, h6⟩ =>
  have c : ∀ j, w'.cell? ⟨b, j, none⟩ = w.cell? ⟨b, j, none⟩ := fun j => hb.cell (p := ⟨b, j, none⟩) hB
  ⟨(c _).trans h0, (c _).trans h1, (c _).trans h2, (c _).trans h3, (c _).trans h4, ⟨sv, (c _).trans h5, hs.below hb, hn⟩, (c _).trans h6⟩

def AgsAt (w : World) (v : Value) (l : List Ag) : Prop := SliceAt 7 AgR w v l
theorem AgsAt.below {w w' : World} {v : Value} {l : List Ag} (h : AgsAt w v l) (hb : Below w.heap.size w w') : AgsAt w' v l := SliceAt.below AgR.stays h hb
end Go.Proofs.YtohmdohbmmbbkaaDoor
