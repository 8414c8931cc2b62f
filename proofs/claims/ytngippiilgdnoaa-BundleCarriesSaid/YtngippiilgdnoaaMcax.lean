/-
  The walks of a list of texts without one, and of a subscription after an event about it.
-/
import Derived.Test.YtngippiilgdnoaaMcaw
import Derived.Test.YtngippiilgdnoaaMcao
set_option maxRecDepth 100000
set_option maxHeartbeats 25600000
namespace Go.Proofs.Ytngippiilgdnoaa
open Go.RowKit
theorem withoutT_take (L : List ByteArray) (s : ByteArray) (k : Nat) (h : k < L.length) : withoutT (L.take (k + 1)) s = if sameS L[k] s = true then withoutT (L.take k) s else withoutT (L.take k) s ++ [L[k]] := by
 unfold withoutT
 rw [List.take_succ_eq_append_getElem h, List.filter_append]
 cases hb : sameS L[k] s <;> simp [hb]
theorem withoutT_sizes {L : List ByteArray} {s : ByteArray} (h : ∀ x ∈ L, x.size ≤ maxLen) : ∀ x ∈ withoutT L s, x.size ≤ maxLen := fun x hx => h x (List.mem_filter.1 hx).1
theorem below_setRow1 {B g : Nat} {a w : World} (h : Below B a w) (hg : B ≤ g) (cs : Array Value) : Below B a (w.setRow g cs) :=
 h.trans ⟨rfl, rfl, rfl, by simp, fun k hk => setRow_other _ _ _ _ (by omega)⟩
def KeptN (B : Nat) (na na' : Option Addr) (nn nn' nc nc' : Nat) (l l' : List ByteArray) : Prop := (na' = na ∧ nn' = nn ∧ nc' = nc ∧ l' = l) ∨ FreshA B na'
theorem FreshA.mono {B B' : Nat} {a : Option Addr} (h : FreshA B a) (hb : B' ≤ B) : FreshA B' a := fun ad e => ⟨(h ad e).1, Nat.le_trans hb (h ad e).2⟩
theorem three_rows (w : World) (o1 o2 o3 : Obj) : ∃ W, W = ((w.alloc o1).alloc o2).alloc o3 ∧ W.heap[w.heap.size]? = some o1 ∧ W.heap[w.heap.size + 1]? = some o2 ∧ W.heap[w.heap.size + 1 + 1]? = some o3 ∧ Below w.heap.size w W ∧ w.heap.size + 1 + 1 < W.heap.size := by
 obtain ⟨h1, h2, h3, h4⟩ := two_rows w o1 o2
 have hb : Below ((w.alloc o1).alloc o2).heap.size ((w.alloc o1).alloc o2) (((w.alloc o1).alloc o2).alloc o3) := (Below.refl _ _).alloc (Nat.le_refl _) _
 have h5 := heap_alloc_new ((w.alloc o1).alloc o2) o3
 have hz : ((w.alloc o1).alloc o2).heap.size = w.heap.size + 1 + 1 := by simp
 rw [hz] at h5
 exact ⟨_, rfl, (hb.block _ (by omega)).trans h1, (hb.block _ (by omega)).trans h2, h5, h3.trans (hb.mono h3.size), by simp⟩
end Go.Proofs.Ytngippiilgdnoaa
