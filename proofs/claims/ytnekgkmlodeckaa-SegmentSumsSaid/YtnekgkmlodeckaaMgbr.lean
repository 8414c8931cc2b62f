/-
  A map of texts by texts that a call makes: as a list of pairs; the look-up with ok and the store, at the operation.
-/
import Derived.Test.YtnekgkmlodeckaaMgav
import Derived.Maps.StringElems
import Derived.Maps.OwnSet
import Derived.Maps.OwnOps
namespace Go.Proofs.Ytnekgkmlodeckaa
open Go.RowKit Go.Maps Go.WideMaps

/-- A map of texts: its pairs, in the order of their stores. -/
def mapOf (l : List (ByteArray × ByteArray)) : DataW Unit := l.foldl (fun m x => m.put (.string x.1.data.toList) (.lit (.string x.2.data.toList))) (.map [])
/-- What it holds at a text. -/
def valP (l : List (ByteArray × ByteArray)) (s : ByteArray) : ByteArray := l.foldl (fun v x => if sameS x.1 s = true then x.2 else v) ByteArray.empty

theorem snocInd {α : Type} {p : List α → Prop} (h0 : p []) (h1 : ∀ l x, p l → p (l ++ [x])) (l : List α) : p l := by
  have h : ∀ r : List α, p r.reverse := by
    intro r
    induction r with
    | nil => exact h0
    | cons x r ih => rw [List.reverse_cons]; exact h1 _ _ ih
  have := h l.reverse
  rwa [List.reverse_reverse] at this
theorem mapOf_snoc (l : List (ByteArray × ByteArray)) (x : ByteArray × ByteArray) : mapOf (l ++ [x]) = (mapOf l).put (.string x.1.data.toList) (.lit (.string x.2.data.toList)) := by
  simp [mapOf, List.foldl_append]
theorem valP_snoc (l : List (ByteArray × ByteArray)) (x : ByteArray × ByteArray) (s : ByteArray) : valP (l ++ [x]) s = if sameS x.1 s = true then x.2 else valP l s := by
  simp [valP, List.foldl_append]
theorem mapOf_isMap (l : List (ByteArray × ByteArray)) : IsMap (mapOf l) := by
  induction l using snocInd with
  | h0 => exact isMap_empty
  | h1 l x ih =>
    rw [mapOf_snoc]; exact ih.put _ _
theorem sameS_key (a b : ByteArray) : sameS a b = true ↔ a.data.toList = b.data.toList := by
  rw [sameS_iff]
  exact ⟨fun h => congrArg _ (congrArg _ h), fun h => ByteArray.ext (Array.toList_inj.1 h)⟩
theorem key_ne {a b : ByteArray} (h : ¬ sameS a b = true) : Lit.string b.data.toList ≠ Lit.string a.data.toList := fun e => h ((sameS_key _ _).2 (by
  have := (Lit.string.injEq _ _).mp e
  exact this.symm))
theorem mapOf_has (l : List (ByteArray × ByteArray)) (s : ByteArray) : Maps.has (mapOf l) (.string s.data.toList) = l.any (fun x => sameS x.1 s) := by
  induction l using snocInd with
  | h0 => rfl
  | h1 l x ih =>
    rw [mapOf_snoc, List.any_append]
    by_cases h : sameS x.1 s = true
    · rw [← (sameS_key _ _).1 h, has_put_same (mapOf_isMap l) (by trivial)]
      simp [h]
    · rw [has_put_other (key_ne h), ih]
      simp [h]
theorem mapOf_at (l : List (ByteArray × ByteArray)) (s : ByteArray) : (mapOf l).atKey (.string s.data.toList) (.lit (.string ByteArray.empty.data.toList)) = .lit (.string (valP l s).data.toList) := by
  induction l using snocInd with
  | h0 => rfl
  | h1 l x ih =>
    rw [mapOf_snoc, valP_snoc]
    by_cases h : sameS x.1 s = true
    · rw [← (sameS_key _ _).1 h, atKey_put_same (mapOf_isMap l) (by trivial), if_pos h]
    · rw [atKey_put_other (key_ne h), ih, if_neg h]

theorem lawS : Keyed Try.prog 9 := string_keyed Try.underlying9
theorem zeroS (w : World) : (zeroValue 9).run Try.prog w = .ok (.string ByteArray.empty) w := by kernel_rfl

/-- A block is a map of texts by texts. -/
def OwnP (w : World) (b : Nat) (l : List (ByteArray × ByteArray)) : Prop := w.ownsMap Try.prog 9 (plainElem Try.prog 9) b l.length (mapOf l)

theorem OwnP.made (w : World) : OwnP (w.alloc (.map #[] 0)) w.heap.size [] := World.ownsMap_made _ _ _ _

theorem wpList_lookup_pairs {ops : Array Oper} {rest : List Oper} {o : Oper} {a : Act} {Q : Exit → Act → World → Prop} (w : World)
    (hg : o.guard = none) (m x : Operand) (hop : o.op = Op.lookup 125 m x true) (b : Nat) (l : List (ByteArray × ByteArray))
    (hm : a.eval m = .map (some b)) (hown : OwnP w b l) (s : ByteArray) (vs : ByteArray) (bo : Bool) (hx : a.eval x = .string s) (hs : s.size ≤ maxLen) (hvs : valP l s = vs) (hbo : l.any (fun x => sameS x.1 s) = bo)
    (hK : wpList Try.prog ops Q rest (a.put o.dst (.tuple #[.string vs, .bool bo])) w) :
    wpList Try.prog ops Q (o :: rest) a w :=
  wpList_lookup_own_ok w hg m x 125 hop 9 9 lawS Try.underlying125 (plainElem Try.prog 9) (zeroS w) (.lit (.string ByteArray.empty.data.toList)) [] (plainElem_string Try.underlying9 (by decide)) b l.length (mapOf l) hm hown (.string s) (.string s.data.toList) hx (keyOf_string_mk Try.underlying9 hs) (fun v ps hv => by
    obtain ⟨t, rfl, ht⟩ := plainElem_string_inv Try.underlying9 hv
    have h1 := congrArg Prod.fst ht.1
    rw [mapOf_at] at h1
    have h2 : t = valP l s := by
      have h3 : (valP l s).data.toList = t.data.toList := by simpa using h1
      exact (ByteArray.ext (Array.toList_inj.1 h3)).symm
    rw [mapOf_has, h2, hvs, hbo]
    exact hK)

theorem wpList_mapUpdate_pairs {ops : Array Oper} {rest : List Oper} {o : Oper} {a : Act} {Q : Exit → Act → World → Prop} (w : World)
    (hg : o.guard = none) (m x v : Operand) (hop : o.op = Op.mapUpdate 125 m x v) (b : Nat) (l : List (ByteArray × ByteArray))
    (hm : a.eval m = .map (some b)) (hown : OwnP w b l) (hn : l.length < maxLen) (s t : ByteArray) (hx : a.eval x = .string s) (hv : a.eval v = .string t) (hs : s.size ≤ maxLen) (ht : t.size ≤ maxLen)
    (hK : ∀ w', OwnP w' b (l ++ [(s, t)]) → w.grownBy w' (some b) → wpList Try.prog ops Q rest (a.put o.dst undef) w') :
    wpList Try.prog ops Q (o :: rest) a w :=
  wpList_mapUpdate_own w hg m x v 125 hop 9 9 lawS Try.underlying125 _ b l.length (mapOf l) hm hown hn (.string s) (.string t) (.string s.data.toList) hx hv (keyOf_string_mk Try.underlying9 hs) (.lit (.string t.data.toList)) [] (plainElem_string Try.underlying9 ht) (fun w' h1 h2 => hK w' (by
    unfold OwnP
    rw [mapOf_snoc, List.length_append]
    exact h1) h2)
end Go.Proofs.Ytnekgkmlodeckaa
