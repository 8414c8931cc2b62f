/-
  The walks of the value of an event and of an event's form.
-/
import Derived.Test.YtngippiilgdnoaaMcab
import Derived.Test.YtngippiilgdnoaaMcal
import Derived.Test.YtngippiilgdnoaaMcaj
import Derived.Deep.LoopGhost
import Derived.WalkMore
set_option maxRecDepth 100000
set_option maxHeartbeats 25600000
namespace Go.Proofs.Ytngippiilgdnoaa
open Go.RowKit
def evCells (e : Ev) : List Value := [.int .i64 e.tm, .int .i64 e.kd, .int .i64 e.ac, .int .i64 e.sb, .string e.nu, .string e.nm, .int .i64 e.vl]
def evVal (e : Ev) : Value := .agg #[.int .i64 e.tm, .int .i64 e.kd, .int .i64 e.ac, .int .i64 e.sb, .string e.nu, .string e.nm, .int .i64 e.vl]
def EvsAt (w : World) (v : Value) (l : List Ev) : Prop := RecAt evCells 7 w v l ∧ ∀ e ∈ l, e.nu.size ≤ maxLen ∧ e.nm.size ≤ maxLen
theorem EvsAt.below {w w' : World} {v : Value} {l : List Ev} (h : EvsAt w v l) (hb : Below w.heap.size w w') : EvsAt w' v l := ⟨h.1.below hb, h.2⟩
def acCells (a : Ac) : List Value := [.int .i64 a.id, .int .i64 a.si, .int .i64 a.an, .bool a.pre, .bool a.clo, .slice none 0 0]
structure SbX where
 s : Sb
 na : Option Addr
 nn : Nat
 nc : Nat
 pa : Option Addr
 pn : Nat
 pc : Nat
def sbCells (x : SbX) : List Value := [.int .i64 x.s.id, .int .i64 x.s.ac, .int .i64 x.s.si, .string x.s.plan, .slice x.na x.nn x.nc, .slice x.pa x.pn x.pc, .bool x.s.su, .bool x.s.fa]
def sbVal (x : SbX) : Value := .agg #[.int .i64 x.s.id, .int .i64 x.s.ac, .int .i64 x.s.si, .string x.s.plan, .slice x.na x.nn x.nc, .slice x.pa x.pn x.pc, .bool x.s.su, .bool x.s.fa]
def PlainA (a : Option Addr) : Prop := ∀ ad, a = some ad → ad.spot = none
theorem PlainA.nil : PlainA none := fun _ h => by cases h
theorem PlainA.at (b o : Nat) : PlainA (some ⟨b, o, none⟩) := fun _ h => by cases h; rfl
def SbRd (w : World) (x : SbX) : Prop := StrsAt w (.slice x.na x.nn x.nc) x.s.nus ∧ StrsAt w (.slice x.pa x.pn x.pc) x.s.prs ∧ x.s.plan.size ≤ maxLen ∧ PlainA x.na ∧ PlainA x.pa
theorem SbRd.below {w w' : World} {x : SbX} (h : SbRd w x) (hb : Below w.heap.size w w') : SbRd w' x := ⟨h.1.below hb, h.2.1.below hb, h.2.2⟩
structure BkAt (w : World) (va vs ve : Value) (X : List SbX) (b : Bk) : Prop where
 a : RecAt acCells 6 w va b.accs
 s : RecAt sbCells 8 w vs X
 x : X.map (·.s) = b.subs
 r : ∀ x ∈ X, SbRd w x
 e : RecAt icCells 1 w ve b.ended
theorem BkAt.below {w w' : World} {va vs ve : Value} {X : List SbX} {b : Bk} (h : BkAt w va vs ve X b) (hb : Below w.heap.size w w') : BkAt w' va vs ve X b :=
 ⟨h.a.below hb, h.s.below hb, h.x, fun x hx => (h.r x hx).below hb, h.e.below hb⟩
theorem BkAt.len {w : World} {va vs ve : Value} {X : List SbX} {b : Bk} (h : BkAt w va vs ve X b) : X.length = b.subs.length := by rw [← h.x, List.length_map]
theorem rec_shape {α : Type} {c : α → List Value} {sz : Nat} {w : World} {v : Value} {l : List α} (h : RecAt c sz w v l) : ∃ a n, v = .slice a l.length n ∧ l.length ≤ n ∧ n ≤ maxLen := by
 obtain ⟨a, n, rfl, h1, h2, -⟩ := h
 exact ⟨a, n, rfl, h1, h2.1⟩
end Go.Proofs.Ytngippiilgdnoaa
namespace Go.Proofs.Ytngippiilgdnoaa
open Go.RowKit
open Go.RowKit
end Go.Proofs.Ytngippiilgdnoaa
