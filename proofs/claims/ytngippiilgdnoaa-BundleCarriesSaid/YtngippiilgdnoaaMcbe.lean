/-
  The walks of the reference's At and Names.
-/
import Derived.Test.YtngippiilgdnoaaMcbd
import Derived.Sort.Walk0
set_option maxRecDepth 100000
set_option maxHeartbeats 25600000
namespace Go.Proofs.Ytngippiilgdnoaa
open Go.RowKit
theorem ltS_iff (a b : ByteArray) : ltS a b = true ↔ a.data.toList < b.data.toList := by
 unfold ltS; rw [Go.Proofs.bytesLess_eq, Lib.toList_data, Lib.toList_data]; exact decide_eq_true_iff
theorem eqS_iff (a b : ByteArray) : eqS a b = true ↔ a = b := by
 unfold eqS
 rw [beq_iff_eq, Lib.toList_data, Lib.toList_data]
 constructor
 · intro h
   cases a with
   | mk a => cases b with
    | mk b => exact congrArg ByteArray.mk (Array.toList_inj.1 h)
 rintro rfl; rfl
theorem ltS_irrefl (a : ByteArray) : ¬ ltS a a = true := fun h => List.lt_irrefl _ ((ltS_iff a a).1 h)
theorem ltS_trans {a b c : ByteArray} (h : ltS a b = true) (h' : ltS b c = true) : ltS a c = true :=
 (ltS_iff a c).2 (List.lt_trans ((ltS_iff a b).1 h) ((ltS_iff b c).1 h'))
theorem eqS_self (a : ByteArray) : eqS a a = true := (eqS_iff a a).2 rfl
def Ahead (a b : Pd) : Prop := ltS a.nm b.nm = true ∨ (a.nm = b.nm ∧ a.fm < b.fm)
theorem Ahead.trans {a b c : Pd} (h : Ahead a b) (h' : Ahead b c) : Ahead a c := by
 rcases h with h | ⟨h, h1⟩ <;> rcases h' with h' | ⟨h', h1'⟩
 · exact Or.inl (ltS_trans h h')
 · exact Or.inl (h' ▸ h)
 · exact Or.inl (h ▸ h')
 exact Or.inr ⟨h.trans h', Int.lt_trans h1 h1'⟩
def PrR (w : World) (b o : Nat) (q : Int × Int × Int) : Prop := w.cell? ⟨b, o, none⟩ = some (.int .i64 q.1) ∧ w.cell? ⟨b, o + 1, none⟩ = some (.int .i64 q.2.1) ∧ w.cell? ⟨b, o + 2, none⟩ = some (.int .i64 q.2.2)
theorem PrR.stays : Stays PrR := fun w w' b _ _ hb hB ⟨h0, h1, h2⟩ =>
 have c : ∀ j, w'.cell? ⟨b, j, none⟩ = w.cell? ⟨b, j, none⟩ := fun j => hb.cell (p := ⟨b, j, none⟩) hB
 ⟨(c _).trans h0, (c _).trans h1, (c _).trans h2⟩
def PrsAt (w : World) (v : Value) (l : List (Int × Int × Int)) : Prop := SliceAt 3 PrR w v l
theorem PrsAt.below {w w' : World} {v : Value} {l : List (Int × Int × Int)} (h : PrsAt w v l) (hb : Below w.heap.size w w') : PrsAt w' v l := SliceAt.below PrR.stays h hb
end Go.Proofs.Ytngippiilgdnoaa
namespace Go.Proofs.Ytngippiilgdnoaa
open Go.RowKit
end Go.Proofs.Ytngippiilgdnoaa
namespace Go.Proofs.Ytngippiilgdnoaa
open Go.RowKit
def SixAt (w : World) (B : Nat) (c0 c1 c2 c3 c4 c5 : Value) : Prop :=
 (w.cell? ⟨B, 0, none⟩ = some c0 ∧ w.cell? ⟨B, 1, none⟩ = some c1 ∧ w.cell? ⟨B, 2, none⟩ = some c2 ∧ w.cell? ⟨B, 3, none⟩ = some c3 ∧ w.cell? ⟨B, 4, none⟩ = some c4 ∧ w.cell? ⟨B, 5, none⟩ = some c5) ∧
  w.frozen? ⟨B, 0, none⟩ = false ∧ w.frozen? ⟨B, 1, none⟩ = false ∧ w.frozen? ⟨B, 2, none⟩ = false ∧ w.frozen? ⟨B, 3, none⟩ = false ∧ w.frozen? ⟨B, 4, none⟩ = false ∧ w.frozen? ⟨B, 5, none⟩ = false
def BestAt (w wr : World) (B : Nat) (has : Value) (o : Option Pd) : Prop :=
 match o with
 | none => has = .bool false ∧ SixAt wr B (.string ⟨#[]⟩) (.int .i64 0) (.int .i64 0) (.string ⟨#[]⟩) (.bool false) (.slice none 0 0)
 | some p => has = .bool true ∧ ∃ bv, BdsAt w bv p.bs ∧ SixAt wr B (.string p.nm) (.int .i64 p.fm) (.int .i64 p.fe) (.string p.ct) (.bool p.pro) bv
theorem BestAt.six {w wr : World} {B : Nat} {has : Value} {o : Option Pd} (h : BestAt w wr B has o) : ∃ c0 c1 c2 c3 c4 c5, SixAt wr B c0 c1 c2 c3 c4 c5 ∧ ∃ b, has = .bool b := by
 cases o with
 | none => exact ⟨_, _, _, _, _, _, h.2, _, h.1⟩
 | some p => obtain ⟨h1, bv, -, h2⟩ := h; exact ⟨_, _, _, _, _, _, h2, _, h1⟩
def RatTo (w : World) (o : Option Pd) (e : Ending) (w' : World) : Prop := match o with | none => AtNo w e w' | some p => AtYes w p e w'
end Go.Proofs.Ytngippiilgdnoaa
