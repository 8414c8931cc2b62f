/-
  The walks of lists of texts with one more, and without one.
-/
import Derived.Test.YtngippiilgdnoaaMcav
import Derived.Test.YtngippiilgdnoaaMcaf
set_option maxRecDepth 100000
set_option maxHeartbeats 25600000
namespace Go.Proofs.Ytngippiilgdnoaa
open Go.RowKit
end Go.Proofs.Ytngippiilgdnoaa
namespace Go.Proofs.Ytngippiilgdnoaa
open Go.RowKit
theorem two_rows (w : World) (o1 o2 : Obj) : ((w.alloc o1).alloc o2).heap[w.heap.size]? = some o1 ∧ ((w.alloc o1).alloc o2).heap[w.heap.size + 1]? = some o2 ∧ Below w.heap.size w ((w.alloc o1).alloc o2) ∧ w.heap.size + 1 < ((w.alloc o1).alloc o2).heap.size := by
 have h1 := heap_alloc_new (w.alloc o1) o2
 rw [World.size_alloc] at h1
 have h2 : Below (w.alloc o1).heap.size (w.alloc o1) ((w.alloc o1).alloc o2) := (Below.refl _ _).alloc (Nat.le_refl _) _
 exact ⟨(h2.block w.heap.size (by simp)).trans (heap_alloc_new w o1), h1, ((Below.refl _ _).alloc (Nat.le_refl _) _).alloc (by simp) _, by simp⟩
theorem addr_at (g o j : Nat) : (⟨g, o, none⟩ : Addr).add j = ⟨g, o + j, none⟩ := by unfold Addr.add; split <;> simp_all
def strCells (s : ByteArray) : List Value := [.string s]
theorem str_one (s : ByteArray) : ∀ u ∈ strCells s, u.oneCell' = true := by
 intro u hu
 simp only [strCells, List.mem_cons, List.not_mem_nil, or_false] at hu
 rw [hu]; rfl
theorem Try.strInfo : (Try.prog.info? 9).map (fun i => (i.zero, i.size, i.bytes)) = some (some (.string ⟨#[]⟩), 1, 16) := by kernel_rfl
theorem strs_of_rec {w : World} {v : Value} {l : List ByteArray} (h : RecAt strCells 1 w v l) (hs : ∀ s ∈ l, s.size ≤ maxLen) : StrsAt w v l := by
 obtain ⟨av, cap, rfl, h1, h2, h3⟩ := h
 refine ⟨av, cap, rfl, h1, h2, fun hne => ?_⟩
 obtain ⟨b, o, rfl, hB, hx⟩ := h3 hne
 exact ⟨b, o, rfl, hB, fun i hi => ⟨hx i hi 0 (by decide), hs _ (List.getElem_mem hi)⟩⟩
theorem rec_of_strs {w : World} {v : Value} {l : List ByteArray} (h : StrsAt w v l) : RecAt strCells 1 w v l := by
 obtain ⟨av, cap, rfl, h1, h2, h3⟩ := h
 refine ⟨av, cap, rfl, h1, h2, fun hne => ?_⟩
 obtain ⟨b, o, rfl, hB, hx⟩ := h3 hne
 refine ⟨b, o, rfl, hB, fun i hi j hj => ?_⟩
 obtain rfl : j = 0 := by omega
 exact (hx i hi).1
theorem strs_sizes {w : World} {v : Value} {l : List ByteArray} (h : StrsAt w v l) : ∀ s ∈ l, s.size ≤ maxLen := by
 intro s hs
 obtain ⟨av, cap, rfl, -, -, hx⟩ := h
 obtain ⟨i, hi, rfl⟩ := List.mem_iff_getElem.1 hs
 obtain ⟨b, o, rfl, -, hx⟩ := hx (by rintro rfl; cases hi)
 exact (hx i hi).2
theorem append_txs {w : World} {ops : Array Oper} {rest : List Oper} {o : Oper} {a : Act} {Q : Exit → Act → World → Prop} (hgd : o.guard = none) (s x : Operand)
 (ho : o.op = .call { callee := .builtin .append, args := #[s, x], argTypes := #[22, 22] })
 (base : Nat) (hbase : base ≤ w.heap.size) (v vx : Value) (L X : List ByteArray) (hs : a.eval s = v) (hx : a.eval x = vx) (hown : w.ownsRow base 9 1 v L.length (L.flatMap strCells)) (hX : RecAt strCells 1 w vx X) (hlen : L.length + X.length ≤ 1000000)
 (h : ∀ R : List ByteArray, RowKit.Hid (R = L ++ X) → ∀ v' w', w'.ownsRow base 9 1 v' R.length (R.flatMap strCells) → Below base w w' → wpList Try.prog ops Q rest (a.put o.dst v') w') : wpList Try.prog ops Q (o :: rest) a w :=
 append_rec (c := strCells) (sz := 1) (fun _ => rfl) str_one 9 22 _ 16 Try.underlying22 Try.strInfo rfl (by decide) hgd s x ho base hbase v vx L X hs hx hown hX (by unfold maxLen; omega) (by omega) h
def FreshA (B : Nat) (a : Option Addr) : Prop := ∀ ad, a = some ad → ad.spot = none ∧ B ≤ ad.block
theorem FreshA.plain {B : Nat} {a : Option Addr} (h : FreshA B a) : PlainA a := fun ad e => (h ad e).1
theorem own_fresh {w : World} {base : Nat} {e : TypeId} {sz n : Nat} {a : Option Addr} {m c : Nat} {xs : List Value} (h : w.ownsRow base e sz (.slice a m c) n xs) : FreshA base a := by
 rcases h.2 with ⟨h, -⟩ | ⟨g, cap, cur, hv, hg, -⟩
 · cases h; exact fun _ h => by cases h
 cases hv; exact fun _ h => by cases h; exact ⟨rfl, hg⟩
theorem withT_sizes {L : List ByteArray} {s : ByteArray} (h : ∀ x ∈ L, x.size ≤ maxLen) (hs : s.size ≤ maxLen) : ∀ x ∈ withT L s, x.size ≤ maxLen := by
 intro x hx
 unfold withT at hx
 rw [List.mem_append, List.mem_append, List.mem_singleton] at hx
 rcases hx with (hx | rfl) | hx
 · exact h x (List.mem_of_mem_take hx)
 · exact hs
 exact h x (List.mem_of_mem_drop hx)
end Go.Proofs.Ytngippiilgdnoaa
