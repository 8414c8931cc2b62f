/-
  The walk of the first part of Apply: the book is copied.
-/
import Derived.Test.YtmilpaibkemmdaaMgbc
import Derived.Test.YtmilpaibkemmdaaMgaj
import Derived.Test.YtmilpaibkemmdaaMgak
import Derived.Test.YtmilpaibkemmdaaMgaf
namespace Go.Proofs.Ytmilpaibkemmdaa
open Go.RowKit

theorem Try.accInfo : (Try.prog.info? 88).map (fun i => (i.zero, i.size, i.bytes)) = some (some (.agg #[.int .i64 0, .int .i64 0, .int .i64 0, .bool false, .bool false, .slice none 0 0]), 6, 56) := by kernel_rfl
theorem Try.subInfo : (Try.prog.info? 92).map (fun i => (i.zero, i.size, i.bytes)) = some (some (.agg #[.int .i64 0, .int .i64 0, .int .i64 0, .string ⟨#[]⟩, .slice none 0 0, .slice none 0 0, .bool false, .bool false]), 8, 96) := by kernel_rfl
theorem ac_one (a : Ac) : ∀ u ∈ acCells a, u.oneCell' = true := by
  intro u hu
  simp only [acCells, List.mem_cons, List.not_mem_nil, or_false] at hu
  rcases hu with rfl | rfl | rfl | rfl | rfl | rfl <;> rfl
theorem sb_one (x : SbX) : ∀ u ∈ sbCells x, u.oneCell' = true := by
  intro u hu
  simp only [sbCells, List.mem_cons, List.not_mem_nil, or_false] at hu
  rcases hu with rfl | rfl | rfl | rfl | rfl | rfl | rfl | rfl <;> rfl

/-- What Apply has made: a box of three slices, each a row of the call's own. -/
structure BkSt (W wx : World) (g : Nat) (s1 s2 s3 : Value) (A : List Ac) (X : List SbX) (E : List Int) : Prop where
  row : wx.heap[g]? = some (Obj.cells #[s1, s2, s3] 72)
  hg : W.heap.size ≤ g
  o1 : wx.ownsRow W.heap.size 88 6 s1 A.length (A.flatMap acCells)
  o2 : wx.ownsRow W.heap.size 92 8 s2 X.length (X.flatMap sbCells)
  o3 : wx.ownsRow W.heap.size 3 1 s3 E.length (E.flatMap icCells)
  b : Below W.heap.size W wx
theorem BkSt.below {W wx w2 : World} {g : Nat} {s1 s2 s3 : Value} {A : List Ac} {X : List SbX} {E : List Int} (h : BkSt W wx g s1 s2 s3 A X E) (hb : Below wx.heap.size wx w2) : BkSt W w2 g s1 s2 s3 A X E :=
  ⟨(hb.block _ (Array.getElem?_eq_some_iff.1 h.row).1).trans h.row, h.hg, ownsRow_below h.o1 hb, ownsRow_below h.o2 hb, ownsRow_below h.o3 hb, h.b.trans (hb.mono h.b.size)⟩
theorem BkSt.lt {W wx : World} {g : Nat} {s1 s2 s3 : Value} {A : List Ac} {X : List SbX} {E : List Int} (h : BkSt W wx g s1 s2 s3 A X E) : g < wx.heap.size := (Array.getElem?_eq_some_iff.1 h.row).1
theorem own_setRow1 {w : World} {base : Nat} {e : TypeId} {sz n g : Nat} {v : Value} {xs : List Value} (h : w.ownsRow base e sz v n xs) (hg : v.ownBlock ≠ some g) (cs : Array Value) : (w.setRow g cs).ownsRow base e sz v n xs := by
  obtain ⟨h1, h2⟩ := h
  refine ⟨h1, ?_⟩
  rcases h2 with h2 | ⟨g', cap, cur, hv, hg', hh, r⟩
  · exact Or.inl h2
  · exact Or.inr ⟨g', cap, cur, hv, hg', by rw [setRow_other _ _ _ _ (by intro e; subst hv; exact hg (by rw [← e]; rfl))]; exact hh, r⟩
theorem own_setCell1 {w : World} {base : Nat} {e : TypeId} {sz n g j : Nat} {v u : Value} {xs : List Value} (h : w.ownsRow base e sz v n xs) (hg : v.ownBlock ≠ some g) : (w.setCell ⟨g, j, none⟩ u).ownsRow base e sz v n xs := by
  obtain ⟨h1, h2⟩ := h
  refine ⟨h1, ?_⟩
  rcases h2 with h2 | ⟨g', cap, cur, hv, hg', hh, r⟩
  · exact Or.inl h2
  · exact Or.inr ⟨g', cap, cur, hv, hg', row_other hh (by intro e; subst hv; exact hg (by rw [← e]; rfl)), r⟩
/-- What Apply returns. -/
def ApplyTo (b : Bk) (w : World) (e : Ending) (w' : World) : Prop := ∃ (a1 a2 a3 : Option Addr) (n1 n2 n3 c1 c2 c3 : Nat) (X : List SbX), e = .returned (.agg #[.slice a1 n1 c1, .slice a2 n2 c2, .slice a3 n3 c3]) ∧ BkAt w' (.slice a1 n1 c1) (.slice a2 n2 c2) (.slice a3 n3 c3) X b ∧ Below w.heap.size w w'
theorem BkSt.finish {w W wx : World} {g R : Nat} {s1 s2 s3 : Value} {A : List Ac} {X : List SbX} {E : List Int} {b : Bk} (h : BkSt W wx g s1 s2 s3 A X E) (hw : Below w.heap.size w W) (hR : w.heap.size ≤ R) (hRW : R < W.heap.size) (cs : Array Value)
    (hA : A = b.accs) (hX : X.map (·.s) = b.subs) (hE : E = b.ended) (hr : ∀ x ∈ X, SbRd (wx.setRow R cs) x) : ApplyTo b w (.returned (.agg #[s1, s2, s3])) (wx.setRow R cs) := by
  obtain ⟨row, hg, o1, o2, o3, hb⟩ := h
  have key : ∀ {e : TypeId} {sz n : Nat} {v : Value} {xs : List Value}, wx.ownsRow W.heap.size e sz v n xs → v.ownBlock ≠ some R := fun h e => by
    have := (ownsRow_block h R e).1
    omega
  have p1 := own_setRow1 o1 (key o1) cs
  have p2 := own_setRow1 o2 (key o2) cs
  have p3 := own_setRow1 o3 (key o3) cs
  obtain ⟨a1, c1, rfl, -, -⟩ := own_shape o1
  obtain ⟨a2, c2, rfl, -, -⟩ := own_shape o2
  obtain ⟨a3, c3, rfl, -, -⟩ := own_shape o3
  refine ⟨a1, a2, a3, _, _, _, c1, c2, c3, X, rfl, ⟨?_, RecAt.own (fun _ => rfl) p2, hX, hr, ?_⟩, below_setRow1 (hw.trans (hb.mono hw.size)) hR cs⟩
  · rw [← hA]; exact RecAt.own (fun _ => rfl) p1
  · rw [← hE]; exact RecAt.own (fun _ => rfl) p3

/-- The laws of the values of Apply's first statement. -/
def apPhi (w W : World) (va vs ve : Value) (A : List Ac) (X : List SbX) (E : List Int) : Nat → Value → World → Prop
  | 0, v, w' => ∃ g, v = .slice (some ⟨g, 0, none⟩) 0 0 ∧ w'.ownsRow W.heap.size 88 6 (.slice (some ⟨g, 0, none⟩) 0 0) 0 []
  | 1, v, _ => v = .pointer (some ⟨w.heap.size, 0, none⟩)
  | 2, v, _ => v = va
  | 3, v, w' => w'.ownsRow W.heap.size 88 6 v A.length (A.flatMap acCells)
  | 4, v, w' => ∃ g, v = .slice (some ⟨g, 0, none⟩) 0 0 ∧ w'.ownsRow W.heap.size 92 8 (.slice (some ⟨g, 0, none⟩) 0 0) 0 []
  | 5, v, _ => v = .pointer (some ⟨w.heap.size, 1, none⟩)
  | 6, v, _ => v = vs
  | 7, v, w' => w'.ownsRow W.heap.size 92 8 v X.length (X.flatMap sbCells)
  | 8, v, w' => ∃ g, v = .slice (some ⟨g, 0, none⟩) 0 0 ∧ w'.ownsRow W.heap.size 3 1 (.slice (some ⟨g, 0, none⟩) 0 0) 0 []
  | 9, v, _ => v = .pointer (some ⟨w.heap.size, 2, none⟩)
  | 10, v, _ => v = ve
  | 11, v, w' => w'.ownsRow W.heap.size 3 1 v E.length (E.flatMap icCells)
  | 12, v, w' => ∃ v1 v2 v3, v = .agg #[v1, v2, v3] ∧ w'.ownsRow W.heap.size 88 6 v1 A.length (A.flatMap acCells) ∧ w'.ownsRow W.heap.size 92 8 v2 X.length (X.flatMap sbCells) ∧ w'.ownsRow W.heap.size 3 1 v3 E.length (E.flatMap icCells)
  | 13, v, w' => ∃ g cs, v = .pointer (some ⟨g, 0, none⟩) ∧ W.heap.size ≤ g ∧ w'.heap[g]? = some (Obj.cells cs 72) ∧ cs.size = 3
  | _, _, _ => True
theorem apPhi_stays {w W : World} {va vs ve : Value} {A : List Ac} {X : List SbX} {E : List Int} {w1 w2 : World} (hb : Below w1.heap.size w1 w2) : ∀ j y, apPhi w W va vs ve A X E j y w1 → apPhi w W va vs ve A X E j y w2
  | 0, _, ⟨g, h1, h2⟩ => ⟨g, h1, ownsRow_below h2 hb⟩
  | 1, _, h => h
  | 2, _, h => h
  | 3, _, h => ownsRow_below h hb
  | 4, _, ⟨g, h1, h2⟩ => ⟨g, h1, ownsRow_below h2 hb⟩
  | 5, _, h => h
  | 6, _, h => h
  | 7, _, h => ownsRow_below h hb
  | 8, _, ⟨g, h1, h2⟩ => ⟨g, h1, ownsRow_below h2 hb⟩
  | 9, _, h => h
  | 10, _, h => h
  | 11, _, h => ownsRow_below h hb
  | 12, _, ⟨v1, v2, v3, h0, h1, h2, h3⟩ => ⟨v1, v2, v3, h0, ownsRow_below h1 hb, ownsRow_below h2 hb, ownsRow_below h3 hb⟩
  | 13, _, ⟨g, cs, h1, h2, h3, h4⟩ => ⟨g, cs, h1, h2, (hb.block _ (Array.getElem?_eq_some_iff.1 h3).1).trans h3, h4⟩
  | _ + 14, _, _ => trivial
theorem ic_one (n : Int) : ∀ u ∈ icCells n, u.oneCell' = true := by
  intro u hu
  simp only [icCells, List.mem_cons, List.not_mem_nil, or_false] at hu
  rw [hu]; rfl

/-- One cell of a record turned. -/
theorem flat_set1 {α : Type} {c : α → List Value} {sz : Nat} (hc : ∀ a, (c a).length = sz) (l : List α) (k j : Nat) (x : α) (u : Value) (h : k < l.length) (hj : j < sz) (hx : c x = (c l[k]).set j u) : (l.flatMap c).set (k * sz + j) u = (l.set k x).flatMap c := by
  rw [← flat_setR hc l k x h]
  have hlen : (k + 1) * sz ≤ l.length * sz := Nat.mul_le_mul_right _ h
  rw [Nat.succ_mul] at hlen
  have e1 := flat_length c sz hc l
  apply List.ext_getElem?
  intro m
  rw [setsL_get _ _ _ _ (by rw [hc, e1]; exact hlen), hc, hx]
  by_cases hm : k * sz ≤ m ∧ m < k * sz + sz
  · rw [if_pos hm]
    have g2 := flat_get c sz hc l k (m - k * sz) h (by omega)
    rw [show k * sz + (m - k * sz) = m by omega] at g2
    by_cases he : m = k * sz + j
    · subst he
      rw [List.getElem?_set_self (by omega), show k * sz + j - k * sz = j by omega, List.getElem?_set_self (by rw [hc]; exact hj)]
    · rw [List.getElem?_set_ne (by omega), List.getElem?_set_ne (by omega), g2]
  · rw [if_neg hm, List.getElem?_set_ne (by omega)]
theorem modify_set {α : Type} (f : α → α) (l : List α) (k : Nat) (h : k < l.length) : l.modify k f = l.set k (f l[k]) := by
  apply List.ext_getElem
  · simp
  · intro i h1 h2
    rw [List.getElem_modify, List.getElem_set]
    by_cases hk : k = i
    · subst hk; simp
    · rw [if_neg hk, if_neg hk]
theorem BkSt.push1 {W V w5 : World} {g : Nat} {s1 s2 s3 v5 : Value} {A A' : List Ac} {X : List SbX} {E : List Int} (h : BkSt W V g s1 s2 s3 A X E) (ob : Obj) (hg5 : (V.alloc ob).grownBy w5 s1.ownBlock) (ho : w5.ownsRow W.heap.size 88 6 v5 A'.length (A'.flatMap acCells)) :
    w5.heap[g]? = some (Obj.cells #[s1, s2, s3] 72) ∧ BkSt W (w5.setCell ⟨g, 0, none⟩ v5) g v5 s2 s3 A' X E := by
  have hr : (V.alloc ob).heap[g]? = some (Obj.cells #[s1, s2, s3] 72) := (((Below.refl V.heap.size V).alloc (Nat.le_refl _) ob).block g h.lt).trans h.row
  have hr5 := (hg5.block g (by have := h.lt; simp; omega) (Ne.symm (own_other (h.o1.alloc ob) hr (by decide)))).trans hr
  exact ⟨hr5, row_set v5 hr5, h.hg, own_setCell1 ho (own_other ho hr5 (by decide)), own_setCell1 ((h.o2.alloc ob).kept hg5 (own_other2 (h.o2.alloc ob) (h.o1.alloc ob) (by decide))) (own_other ((h.o2.alloc ob).kept hg5 (own_other2 (h.o2.alloc ob) (h.o1.alloc ob) (by decide))) hr5 (by decide)),
    own_setCell1 ((h.o3.alloc ob).kept hg5 (own_other2 (h.o3.alloc ob) (h.o1.alloc ob) (by decide))) (own_other ((h.o3.alloc ob).kept hg5 (own_other2 (h.o3.alloc ob) (h.o1.alloc ob) (by decide))) hr5 (by decide)), ((h.b.alloc h.b.size ob).grown hg5 (by have := h.b.size; simp; omega) (fun k hk => (ownsRow_block h.o1 k hk).1)).setCell h.hg _⟩
theorem BkSt.push2 {W V w5 : World} {g : Nat} {s1 s2 s3 v5 : Value} {A : List Ac} {X X' : List SbX} {E : List Int} (h : BkSt W V g s1 s2 s3 A X E) (ob : Obj) (hg5 : (V.alloc ob).grownBy w5 s2.ownBlock) (ho : w5.ownsRow W.heap.size 92 8 v5 X'.length (X'.flatMap sbCells)) :
    w5.heap[g]? = some (Obj.cells #[s1, s2, s3] 72) ∧ BkSt W (w5.setCell ⟨g, 1, none⟩ v5) g s1 v5 s3 A X' E := by
  have hr : (V.alloc ob).heap[g]? = some (Obj.cells #[s1, s2, s3] 72) := (((Below.refl V.heap.size V).alloc (Nat.le_refl _) ob).block g h.lt).trans h.row
  have hr5 := (hg5.block g (by have := h.lt; simp; omega) (Ne.symm (own_other (h.o2.alloc ob) hr (by decide)))).trans hr
  exact ⟨hr5, row_set v5 hr5, h.hg, own_setCell1 ((h.o1.alloc ob).kept hg5 (own_other2 (h.o1.alloc ob) (h.o2.alloc ob) (by decide))) (own_other ((h.o1.alloc ob).kept hg5 (own_other2 (h.o1.alloc ob) (h.o2.alloc ob) (by decide))) hr5 (by decide)), own_setCell1 ho (own_other ho hr5 (by decide)),
    own_setCell1 ((h.o3.alloc ob).kept hg5 (own_other2 (h.o3.alloc ob) (h.o2.alloc ob) (by decide))) (own_other ((h.o3.alloc ob).kept hg5 (own_other2 (h.o3.alloc ob) (h.o2.alloc ob) (by decide))) hr5 (by decide)), ((h.b.alloc h.b.size ob).grown hg5 (by have := h.b.size; simp; omega) (fun k hk => (ownsRow_block h.o2 k hk).1)).setCell h.hg _⟩
theorem BkSt.push3 {W V w5 : World} {g : Nat} {s1 s2 s3 v5 : Value} {A : List Ac} {X : List SbX} {E E' : List Int} (h : BkSt W V g s1 s2 s3 A X E) (ob : Obj) (hg5 : (V.alloc ob).grownBy w5 s3.ownBlock) (ho : w5.ownsRow W.heap.size 3 1 v5 E'.length (E'.flatMap icCells)) :
    w5.heap[g]? = some (Obj.cells #[s1, s2, s3] 72) ∧ BkSt W (w5.setCell ⟨g, 2, none⟩ v5) g s1 s2 v5 A X E' := by
  have hr : (V.alloc ob).heap[g]? = some (Obj.cells #[s1, s2, s3] 72) := (((Below.refl V.heap.size V).alloc (Nat.le_refl _) ob).block g h.lt).trans h.row
  have hr5 := (hg5.block g (by have := h.lt; simp; omega) (Ne.symm (own_other (h.o3.alloc ob) hr (by decide)))).trans hr
  exact ⟨hr5, row_set v5 hr5, h.hg, own_setCell1 ((h.o1.alloc ob).kept hg5 (own_other2 (h.o1.alloc ob) (h.o3.alloc ob) (by decide))) (own_other ((h.o1.alloc ob).kept hg5 (own_other2 (h.o1.alloc ob) (h.o3.alloc ob) (by decide))) hr5 (by decide)),
    own_setCell1 ((h.o2.alloc ob).kept hg5 (own_other2 (h.o2.alloc ob) (h.o3.alloc ob) (by decide))) (own_other ((h.o2.alloc ob).kept hg5 (own_other2 (h.o2.alloc ob) (h.o3.alloc ob) (by decide))) hr5 (by decide)), own_setCell1 ho (own_other ho hr5 (by decide)), ((h.b.alloc h.b.size ob).grown hg5 (by have := h.b.size; simp; omega) (fun k hk => (ownsRow_block h.o3 k hk).1)).setCell h.hg _⟩
/-- A row of the call's own turned in place. -/
theorem BkSt.turn1 {W V w5 : World} {g : Nat} {s1 s2 s3 : Value} {A A' : List Ac} {X : List SbX} {E : List Int} (h : BkSt W V g s1 s2 s3 A X E) (hg5 : V.grownBy w5 s1.ownBlock) (ho : w5.ownsRow W.heap.size 88 6 s1 A'.length (A'.flatMap acCells)) : BkSt W w5 g s1 s2 s3 A' X E :=
  ⟨(hg5.block g h.lt (Ne.symm (own_other h.o1 h.row (by decide)))).trans h.row, h.hg, ho, h.o2.kept hg5 (own_other2 h.o2 h.o1 (by decide)), h.o3.kept hg5 (own_other2 h.o3 h.o1 (by decide)), h.b.grown hg5 h.b.size (fun k hk => (ownsRow_block h.o1 k hk).1)⟩
theorem BkSt.turn2 {W V w5 : World} {g : Nat} {s1 s2 s3 : Value} {A : List Ac} {X X' : List SbX} {E : List Int} (h : BkSt W V g s1 s2 s3 A X E) (hg5 : V.grownBy w5 s2.ownBlock) (ho : w5.ownsRow W.heap.size 92 8 s2 X'.length (X'.flatMap sbCells)) : BkSt W w5 g s1 s2 s3 A X' E :=
  ⟨(hg5.block g h.lt (Ne.symm (own_other h.o2 h.row (by decide)))).trans h.row, h.hg, h.o1.kept hg5 (own_other2 h.o1 h.o2 (by decide)), ho, h.o3.kept hg5 (own_other2 h.o3 h.o2 (by decide)), h.b.grown hg5 h.b.size (fun k hk => (ownsRow_block h.o2 k hk).1)⟩

set_option maxRecDepth 100000 in
set_option maxHeartbeats 12800000 in
theorem apply_acc (va vs ve : Value) (X : List SbX) (b : Bk) (ev : Ev) (last : Int) (w : World) (h : BkAt w va vs ve X b) (hok : OkEv b last ev) (hkd : ev.kd = 1 ∨ ev.kd = 3 ∨ ev.kd = 14 ∨ ev.kd = 15) (hsm : Small b 1000) (hn : ev.nu.size ≤ maxLen) (hm : ev.nm.size ≤ maxLen) :
    Calls Try.prog 39 #[.agg #[va, vs, ve], evVal ev] w (ApplyTo (applyB b ev) w) := by
  have HXl := Lib.hid h.len
  have hXb : X.length ≤ 1000 := by rw [h.len]; exact hsm.s
  have hsa := hsm.a
  have hss := hsm.s
  have hse := hsm.e
  obtain ⟨tm, kd, ac, sb, nu, nm, vl⟩ := ev
  have hh := h
  obtain ⟨aa, an, rfl, hla, hma⟩ := rec_shape h.a
  obtain ⟨sa, sn, rfl, hls, hms⟩ := rec_shape h.s
  obtain ⟨ea, en, rfl, -, -⟩ := rec_shape h.e
  obtain ⟨W, hW, r0, r1, r2, hw0, hz⟩ := three_rows w (Obj.cells #[.slice aa b.accs.length an, .slice sa X.length sn, .slice ea b.ended.length en] 72) (Obj.cells #[.int .i64 tm, .int .i64 kd, .int .i64 ac, .int .i64 sb, .string nu, .string nm, .int .i64 vl] 55) (Obj.cells #[.slice none 0 0, .slice none 0 0, .slice none 0 0] 72)
  have HC := Lib.hid (show ∀ Y, Below W.heap.size W Y → Y.cell? ⟨w.heap.size, 0, none⟩ = some (.slice aa b.accs.length an) ∧ Y.cell? ⟨w.heap.size, 1, none⟩ = some (.slice sa X.length sn) ∧ Y.cell? ⟨w.heap.size, 2, none⟩ = some (.slice ea b.ended.length en) ∧
      Y.cell? ⟨w.heap.size + 1, 0, none⟩ = some (.int .i64 tm) ∧ Y.cell? ⟨w.heap.size + 1, 1, none⟩ = some (.int .i64 kd) ∧ Y.cell? ⟨w.heap.size + 1, 2, none⟩ = some (.int .i64 ac) ∧ Y.cell? ⟨w.heap.size + 1, 3, none⟩ = some (.int .i64 sb) ∧ Y.cell? ⟨w.heap.size + 1, 4, none⟩ = some (.string nu) ∧ Y.cell? ⟨w.heap.size + 1, 5, none⟩ = some (.string nm) ∧ Y.cell? ⟨w.heap.size + 1, 6, none⟩ = some (.int .i64 vl) from fun Y hb => by
    have q := (hb.block _ (by omega)).trans r0
    have p := (hb.block _ (by omega)).trans r1
    exact ⟨cell_of_row Y _ 0 _ _ _ q, cell_of_row Y _ 1 _ _ _ q, cell_of_row Y _ 2 _ _ _ q, cell_of_row Y _ 0 _ _ _ p, cell_of_row Y _ 1 _ _ _ p, cell_of_row Y _ 2 _ _ _ p, cell_of_row Y _ 3 _ _ _ p, cell_of_row Y _ 4 _ _ _ p, cell_of_row Y _ 5 _ _ _ p, cell_of_row Y _ 6 _ _ _ p⟩)
  have HBk := Lib.hid (show ∀ Y, Below W.heap.size W Y → BkAt Y (.slice aa b.accs.length an) (.slice sa X.length sn) (.slice ea b.ended.length en) X b from fun Y hb => hh.below (hw0.trans (hb.mono hw0.size)))
  have HR2 := Lib.hid (show ∀ Y, Below W.heap.size W Y → Y.heap[w.heap.size + 1 + 1]? = some (Obj.cells #[.slice none 0 0, .slice none 0 0, .slice none 0 0] 72) from fun Y hb => (hb.block _ hz).trans r2)
  have HSt := Lib.hid (fun (w1 w2 : World) (hb : Below w1.heap.size w1 w2) => @apPhi_stays w W (.slice aa b.accs.length an) (.slice sa X.length sn) (.slice ea b.ended.length en) b.accs X b.ended w1 w2 hb)
  unfold evVal
  dsimp only
  dsimp only at hkd
  have Hkd := Lib.hid hkd
  clear hkd
  have HW := Lib.hid hW
  have Hw0 := Lib.hid hw0
  have Hz := Lib.hid hz
  have Hold := Lib.hid h.r
  have HXs := Lib.hid h.x
  have Hok := Lib.hid hok
  have Hsm := Lib.hid hsm
  have Hsz := Lib.hid (And.intro hn hm)
  clear hW r0 r1 r2 hw0 h hh hok hsm hn hm
  go_enter Try.func39, Try.ntmps39
  go_upto_region 1 with (fail)
  rw [← HW.out]
  refine wp_region_free2 (fun w' => Below W.heap.size W w') (apPhi w W (.slice aa b.accs.length an) (.slice sa X.length sn) (.slice ea b.ended.length en) b.accs X b.ended) (by kernel_rfl) (by decide) (by kernel_rfl) (Below.refl _ _).drew ?_
  generalize hfr : (fun v : Nat → Value => _) = fr
  simp only [List.map_cons, List.map_nil, putsL, List.setIfInBounds_toArray, List.set_cons_succ, List.set_cons_zero, Nat.zero_add, Nat.reduceAdd] at hfr
  simp only [FreeOps]
  refine ⟨?_, ?_, ?_, ?_, ?_, ?_, ?_, ?_, ?_, ?_, ?_, ?_, ?_, ?_, ?_⟩
  · intro v w1 hC hd K hK
    rw [← hfr] at hK ⊢
    go_simp
    exact hK _ _ (hC.alloc hC.size _) (HSt.out _ _ ((Below.refl _ _).alloc (Nat.le_refl _) _)) ⟨_, rfl, own_down (own_empty w1 _) hC.size⟩
  · intro v w1 hC hd K hK
    rw [← hfr] at hK ⊢
    go_simp
    exact hK _ _ hC (HSt.out _ _ (Below.refl _ _)) rfl
  · intro v w1 hC hd K hK
    obtain ⟨hv, -⟩ := hd
    have hv : v 1 = _ := hv
    obtain ⟨c0, c1, c2, -⟩ := HC.out w1 hC
    rw [← hfr] at hK ⊢
    simp only [hv] at hK ⊢
    go_simp
    exact hK _ _ hC (HSt.out _ _ (Below.refl _ _)) rfl
  · intro v w1 hC hd K hK
    obtain ⟨⟨g0, hv0, ho0⟩, hv2, -⟩ := hd
    have hv2 : v 2 = _ := hv2
    refine wp_append_copy (c := acCells) (sz := 6) (fun _ => rfl) ac_one 88 68 _ 56 Try.underlying68 Try.accInfo rfl (by decide) rfl _ _ rfl W.heap.size hC.size (some ⟨g0, 0, none⟩) _ b.accs (by rw [← hfr]; exact hv0) (by rw [← hfr]; exact hv2) ho0 (HBk.out w1 hC).a (by unfold maxLen; omega) (by omega) (fun v' w' h1 h2 => ?_)
    exact hK _ _ (hC.trans (h2.mono hC.size)) (HSt.out _ _ h2) h1
  · intro v w1 hC hd K hK
    rw [← hfr] at hK ⊢
    go_simp
    exact hK _ _ (hC.alloc hC.size _) (HSt.out _ _ ((Below.refl _ _).alloc (Nat.le_refl _) _)) ⟨_, rfl, own_down (own_empty w1 _) hC.size⟩
  · intro v w1 hC hd K hK
    rw [← hfr] at hK ⊢
    go_simp
    exact hK _ _ hC (HSt.out _ _ (Below.refl _ _)) rfl
  · intro v w1 hC hd K hK
    obtain ⟨hv, -⟩ := hd
    have hv : v 5 = _ := hv
    obtain ⟨c0, c1, c2, -⟩ := HC.out w1 hC
    rw [← hfr] at hK ⊢
    simp only [hv] at hK ⊢
    go_simp
    exact hK _ _ hC (HSt.out _ _ (Below.refl _ _)) rfl
  · intro v w1 hC hd K hK
    obtain ⟨⟨g0, hv0, ho0⟩, hv2, -⟩ := hd
    have hv2 : v 6 = _ := hv2
    refine wp_append_copy (c := sbCells) (sz := 8) (fun _ => rfl) sb_one 92 69 _ 96 Try.underlying69 Try.subInfo rfl (by decide) rfl _ _ rfl W.heap.size hC.size (some ⟨g0, 0, none⟩) _ X (by rw [← hfr]; exact hv0) (by rw [← hfr]; exact hv2) ho0 (HBk.out w1 hC).s (by unfold maxLen; omega) (by omega) (fun v' w' h1 h2 => ?_)
    exact hK _ _ (hC.trans (h2.mono hC.size)) (HSt.out _ _ h2) h1
  · intro v w1 hC hd K hK
    rw [← hfr] at hK ⊢
    go_simp
    exact hK _ _ (hC.alloc hC.size _) (HSt.out _ _ ((Below.refl _ _).alloc (Nat.le_refl _) _)) ⟨_, rfl, own_down (own_empty w1 _) hC.size⟩
  · intro v w1 hC hd K hK
    rw [← hfr] at hK ⊢
    go_simp
    exact hK _ _ hC (HSt.out _ _ (Below.refl _ _)) rfl
  · intro v w1 hC hd K hK
    obtain ⟨hv, -⟩ := hd
    have hv : v 9 = _ := hv
    obtain ⟨c0, c1, c2, -⟩ := HC.out w1 hC
    rw [← hfr] at hK ⊢
    simp only [hv] at hK ⊢
    go_simp
    exact hK _ _ hC (HSt.out _ _ (Below.refl _ _)) rfl
  · intro v w1 hC hd K hK
    obtain ⟨⟨g0, hv0, ho0⟩, hv2, -⟩ := hd
    have hv2 : v 10 = _ := hv2
    refine wp_append_copy (c := icCells) (sz := 1) (fun _ => rfl) ic_one 3 70 _ 8 Try.underlying70 Try.intInfo rfl (by decide) rfl _ _ rfl W.heap.size hC.size (some ⟨g0, 0, none⟩) _ b.ended (by rw [← hfr]; exact hv0) (by rw [← hfr]; exact hv2) ho0 (HBk.out w1 hC).e (by unfold maxLen; omega) (by omega) (fun v' w' h1 h2 => ?_)
    exact hK _ _ (hC.trans (h2.mono hC.size)) (HSt.out _ _ h2) h1
  · intro v w1 hC hd K hK
    obtain ⟨h1, h2, h3, -⟩ := hd
    have h1 : w1.ownsRow _ _ _ (v 3) _ _ := h1
    have h2 : w1.ownsRow _ _ _ (v 7) _ _ := h2
    have h3 : w1.ownsRow _ _ _ (v 11) _ _ := h3
    obtain ⟨b1, q1, e1, -, -⟩ := own_shape h1
    obtain ⟨b2, q2, e2, -, -⟩ := own_shape h2
    obtain ⟨b3, q3, e3, -, -⟩ := own_shape h3
    rw [e1] at h1
    rw [e2] at h2
    rw [e3] at h3
    have H := Lib.hid (And.intro h1 (And.intro h2 h3))
    clear h1 h2 h3
    rw [← hfr] at hK ⊢
    simp only [e1, e2, e3] at hK ⊢
    go_simp
    exact hK _ _ hC (HSt.out _ _ (Below.refl _ _)) ⟨_, _, _, rfl, H.out⟩
  · intro v w1 hC hd K hK
    rw [← hfr] at hK ⊢
    go_simp
    exact hK _ _ (hC.alloc hC.size _) (HSt.out _ _ ((Below.refl _ _).alloc (Nat.le_refl _) _)) ⟨_, _, rfl, hC.size, heap_alloc_new _ _, rfl⟩
  · intro v w1 hC hall
    obtain ⟨⟨-, v1, v2, v3, hv12, o1, o2, o3⟩, g, cs, hv13, hg, hrow, hcs⟩ := hall
    have hw12 : v 12 = _ := hv12
    have hw13 : v 13 = _ := hv13
    have hst : BkSt W (w1.setRow g #[v1, v2, v3]) g v1 v2 v3 b.accs X b.ended := ⟨setRow_heap w1 g cs _ _ _ hrow, hg, own_setRow1 o1 (own_other o1 hrow (by decide)) _, own_setRow1 o2 (own_other o2 hrow (by decide)) _, own_setRow1 o3 (own_other o3 hrow (by decide)) _, below_setRow1 hC hg _⟩
    obtain ⟨b1, q1, rfl, -, -⟩ := own_shape o1
    obtain ⟨b2, q2, rfl, -, -⟩ := own_shape o2
    obtain ⟨b3, q3, rfl, -, -⟩ := own_shape o3
    refine wp_store_row _ _ _ rfl g #[.slice b1 b.accs.length q1, .slice b2 X.length q2, .slice b3 b.ended.length q3] (by rw [← hfr]; exact hv13) (by rw [← hfr]; exact hv12) 72 cs hrow (by kernel_rfl) hcs (by simp [Value.oneCell']) ?_
    have Hst := Lib.hid hst
    clear hst o1 o2 o3 hrow hC
    obtain ⟨V, hV⟩ : ∃ V, V = w1.setRow g #[.slice b1 b.accs.length q1, .slice b2 X.length q2, .slice b3 b.ended.length q3] := ⟨_, rfl⟩
    rw [← hV] at Hst ⊢
    clear hV
    rw [← hfr]
    simp only [hw12, hw13]
    generalize v 0 = y0, v 1 = y1, v 2 = y2, v 3 = y3, v 4 = y4, v 5 = y5, v 6 = y6, v 7 = y7, v 8 = y8, v 9 = y9, v 10 = y10, v 11 = y11
    clear hv12 hv13 hw12 hw13 hfr hcs v HSt
    obtain ⟨c0, c1, c2, d0, d1, d2, d3, d4, d5, d6⟩ := HC.out V Hst.out.b
    have p0 := cell_of_row V _ 0 _ _ _ Hst.out.row
    have p1 := cell_of_row V _ 1 _ _ _ Hst.out.row
    have p2 := cell_of_row V _ 2 _ _ _ Hst.out.row
    rcases Hkd.out with hk1 | hk3 | hk14 | hk15
    · subst hk1
      have HAp := Lib.hid (show applyB b ⟨tm, 1, ac, sb, nu, nm, vl⟩ = { b with accs := b.accs ++ [⟨ac, tm, vl, sameS nm prepaidT, false⟩] } from rfl)
      have hpr : (nm.toList == [112, 114, 101, 112, 97, 105, 100]) = sameS nm prepaidT := by unfold sameS; rw [Lib.toList_data prepaidT]; rfl
      obtain ⟨pr, hpre⟩ : ∃ pr, pr = sameS nm prepaidT := ⟨_, rfl⟩
      rw [← hpre] at hpr HAp
      clear hpre
      have HX1 := Lib.hid (RecAt.one (c := acCells) (sz := 6) V ⟨ac, tm, vl, pr, false⟩ 88 #[.int .i64 ac, .int .i64 tm, .int .i64 vl, .bool pr, .bool false, .slice none 0 0] rfl)
      go_upto_region 8 with (fail)
      go_wp2_with (at_builtin; refine append_rec2 (c := acCells) (sz := 6) (fun _ => rfl) ac_one 88 68 _ 56 Try.underlying68 Try.accInfo rfl (by decide) rfl _ _ rfl W.heap.size ?hb1 _ _ b.accs [⟨ac, tm, vl, pr, false⟩] rfl rfl (Hst.out.o1.alloc _) HX1.out ?hl1 ?hl2 ?_)
      case hb1 => have := Hst.out.b.size; (try simp); omega
      case hl1 => unfold maxLen; (try simp); omega
      case hl2 => (try simp); omega
      intro R hR v5 w5 own5 hgrow5
      obtain ⟨hrow5, hst6⟩ := Hst.out.push1 _ hgrow5 own5
      obtain ⟨a5, c5, rfl, -, -⟩ := own_shape own5
      have o0 := cell_of_row w5 _ 0 _ _ _ hrow5
      have of0 := frozen_of_row w5 _ 0 _ _ hrow5
      have HRe := Lib.hid hR.out
      obtain ⟨w6, hw6⟩ : ∃ w6, w6 = w5.setCell ⟨g, 0, none⟩ (.slice a5 R.length c5) := ⟨_, rfl⟩
      rw [← hw6] at hst6
      have Hst6 := Lib.hid hst6
      have Hw6 := Lib.hid hw6
      clear own5 hgrow5 hrow5 hst6 hw6 hR c0 c1 c2 d0 d1 d2 d3 d4 d5 d6 p0 p1 p2
      go_upto_region 16 with (fail)
      rw [← Hw6.out]
      clear o0 of0
      obtain ⟨u0, u1, u2⟩ : w6.cell? ⟨g, 0, none⟩ = _ ∧ w6.cell? ⟨g, 1, none⟩ = _ ∧ w6.cell? ⟨g, 2, none⟩ = _ := ⟨cell_of_row w6 _ 0 _ _ _ Hst6.out.row, cell_of_row w6 _ 1 _ _ _ Hst6.out.row, cell_of_row w6 _ 2 _ _ _ Hst6.out.row⟩
      go_upto_region 16 with (fail)
      have t0 := cell_setRow_same w6 (w.heap.size + 1 + 1) 0 _ #[.slice a5 R.length c5, .slice b2 X.length q2, .slice b3 b.ended.length q3] _ _ (HR2.out w6 Hst6.out.b)
      have t1 := cell_setRow_same w6 (w.heap.size + 1 + 1) 1 _ #[.slice a5 R.length c5, .slice b2 X.length q2, .slice b3 b.ended.length q3] _ _ (HR2.out w6 Hst6.out.b)
      have t2 := cell_setRow_same w6 (w.heap.size + 1 + 1) 2 _ #[.slice a5 R.length c5, .slice b2 X.length q2, .slice b3 b.ended.length q3] _ _ (HR2.out w6 Hst6.out.b)
      repeat (first | refine wpList_store_row rfl _ _ _ rfl (w.heap.size + 1 + 1) #[.slice a5 R.length c5, .slice b2 X.length q2, .slice b3 b.ended.length q3] rfl rfl 72 _ (HR2.out w6 Hst6.out.b) (by kernel_rfl) rfl (by simp [Value.oneCell']) ?_ | go_step)
      refine bodyPost_ret (v := .agg #[.slice a5 R.length c5, .slice b2 X.length q2, .slice b3 b.ended.length q3]) (by simp [results, Try.results39, go_sem, t0, t1, t2]) rfl ?_
      exact Hst6.out.finish Hw0.out (show w.heap.size ≤ w.heap.size + 1 + 1 by omega) Hz.out _ (by rw [HAp.out]; exact HRe.out) (by rw [HAp.out]; exact HXs.out) (by rw [HAp.out]) (fun x hx => (Hold.out x hx).below (below_setRow1 (Hw0.out.trans (Hst6.out.b.mono Hw0.out.size)) (by omega) _))
    · subst hk3
      have HAp := Lib.hid (show applyB b ⟨tm, 3, ac, sb, nu, nm, vl⟩ = { b with subs := b.subs ++ [⟨sb, ac, tm, nm, [], [], false, false⟩] } from rfl)
      have HX1 := Lib.hid (RecAt.one (c := sbCells) (sz := 8) V ⟨⟨sb, ac, tm, nm, [], [], false, false⟩, none, 0, 0, none, 0, 0⟩ 92 #[.int .i64 sb, .int .i64 ac, .int .i64 tm, .string nm, .slice none 0 0, .slice none 0 0, .bool false, .bool false] rfl)
      go_upto_region 12 with (fail)
      go_wp2_with (at_builtin; refine append_rec2 (c := sbCells) (sz := 8) (fun _ => rfl) sb_one 92 69 _ 96 Try.underlying69 Try.subInfo rfl (by decide) rfl _ _ rfl W.heap.size ?hb1 _ _ X [⟨⟨sb, ac, tm, nm, [], [], false, false⟩, none, 0, 0, none, 0, 0⟩] rfl rfl (Hst.out.o2.alloc _) HX1.out ?hl1 ?hl2 ?_)
      case hb1 => have := Hst.out.b.size; (try simp); omega
      case hl1 => unfold maxLen; (try simp); omega
      case hl2 => (try simp); omega
      intro R hR v5 w5 own5 hgrow5
      obtain ⟨hrow5, hst6⟩ := Hst.out.push2 _ hgrow5 own5
      obtain ⟨a5, c5, rfl, -, -⟩ := own_shape own5
      have o0 := cell_of_row w5 _ 1 _ _ _ hrow5
      have of0 := frozen_of_row w5 _ 1 _ _ hrow5
      have HRe := Lib.hid hR.out
      have Hr6 := Lib.hid (show ∀ x ∈ R, ∀ Y, Below w.heap.size w Y → SbRd Y x from fun x hx Y hY => by
        rw [HRe.out, List.mem_append, List.mem_singleton] at hx
        rcases hx with hx | rfl
        · exact (Hold.out x hx).below hY
        · exact ⟨SliceAt.nil _, SliceAt.nil _, Hsz.out.2, PlainA.nil, PlainA.nil⟩)
      obtain ⟨w6, hw6⟩ : ∃ w6, w6 = w5.setCell ⟨g, 1, none⟩ (.slice a5 R.length c5) := ⟨_, rfl⟩
      rw [← hw6] at hst6
      have Hst6 := Lib.hid hst6
      have Hw6 := Lib.hid hw6
      clear own5 hgrow5 hrow5 hst6 hw6 hR c0 c1 c2 d0 d1 d2 d3 d4 d5 d6 p0 p1 p2
      go_upto_region 16 with (fail)
      rw [← Hw6.out]
      clear o0 of0
      obtain ⟨u0, u1, u2⟩ : w6.cell? ⟨g, 0, none⟩ = _ ∧ w6.cell? ⟨g, 1, none⟩ = _ ∧ w6.cell? ⟨g, 2, none⟩ = _ := ⟨cell_of_row w6 _ 0 _ _ _ Hst6.out.row, cell_of_row w6 _ 1 _ _ _ Hst6.out.row, cell_of_row w6 _ 2 _ _ _ Hst6.out.row⟩
      go_upto_region 16 with (fail)
      have t0 := cell_setRow_same w6 (w.heap.size + 1 + 1) 0 _ #[.slice b1 b.accs.length q1, .slice a5 R.length c5, .slice b3 b.ended.length q3] _ _ (HR2.out w6 Hst6.out.b)
      have t1 := cell_setRow_same w6 (w.heap.size + 1 + 1) 1 _ #[.slice b1 b.accs.length q1, .slice a5 R.length c5, .slice b3 b.ended.length q3] _ _ (HR2.out w6 Hst6.out.b)
      have t2 := cell_setRow_same w6 (w.heap.size + 1 + 1) 2 _ #[.slice b1 b.accs.length q1, .slice a5 R.length c5, .slice b3 b.ended.length q3] _ _ (HR2.out w6 Hst6.out.b)
      repeat (first | refine wpList_store_row rfl _ _ _ rfl (w.heap.size + 1 + 1) #[.slice b1 b.accs.length q1, .slice a5 R.length c5, .slice b3 b.ended.length q3] rfl rfl 72 _ (HR2.out w6 Hst6.out.b) (by kernel_rfl) rfl (by simp [Value.oneCell']) ?_ | go_step)
      refine bodyPost_ret (v := .agg #[.slice b1 b.accs.length q1, .slice a5 R.length c5, .slice b3 b.ended.length q3]) (by simp [results, Try.results39, go_sem, t0, t1, t2]) rfl ?_
      exact Hst6.out.finish Hw0.out (show w.heap.size ≤ w.heap.size + 1 + 1 by omega) Hz.out _ (by rw [HAp.out]) (by rw [HAp.out, HRe.out, List.map_append, HXs.out]; rfl) (by rw [HAp.out]) (fun x hx => Hr6.out x hx _ (below_setRow1 (Hw0.out.trans (Hst6.out.b.mono Hw0.out.size)) (by omega) _))
    · subst hk14
      have HAp := Lib.hid (show applyB b ⟨tm, 14, ac, sb, nu, nm, vl⟩ = b by unfold applyB; dsimp only; rw [if_neg (by omega), if_neg (by omega), if_neg (by omega), if_pos (by omega)])
      clear c0 c1 c2 d0 d2 d3 d4 d5 d6 p0 p1 p2
      obtain ⟨u0, u1, u2⟩ : V.cell? ⟨g, 0, none⟩ = _ ∧ V.cell? ⟨g, 1, none⟩ = _ ∧ V.cell? ⟨g, 2, none⟩ = _ := ⟨cell_of_row V _ 0 _ _ _ Hst.out.row, cell_of_row V _ 1 _ _ _ Hst.out.row, cell_of_row V _ 2 _ _ _ Hst.out.row⟩
      go_upto_region 15 with (fail)
      have t0 := cell_setRow_same V (w.heap.size + 1 + 1) 0 _ #[.slice b1 b.accs.length q1, .slice b2 X.length q2, .slice b3 b.ended.length q3] _ _ (HR2.out V Hst.out.b)
      have t1 := cell_setRow_same V (w.heap.size + 1 + 1) 1 _ #[.slice b1 b.accs.length q1, .slice b2 X.length q2, .slice b3 b.ended.length q3] _ _ (HR2.out V Hst.out.b)
      have t2 := cell_setRow_same V (w.heap.size + 1 + 1) 2 _ #[.slice b1 b.accs.length q1, .slice b2 X.length q2, .slice b3 b.ended.length q3] _ _ (HR2.out V Hst.out.b)
      repeat (first | refine wpList_store_row rfl _ _ _ rfl (w.heap.size + 1 + 1) #[.slice b1 b.accs.length q1, .slice b2 X.length q2, .slice b3 b.ended.length q3] rfl rfl 72 _ (HR2.out V Hst.out.b) (by kernel_rfl) rfl (by simp [Value.oneCell']) ?_ | go_step)
      refine bodyPost_ret (v := .agg #[.slice b1 b.accs.length q1, .slice b2 X.length q2, .slice b3 b.ended.length q3]) (by simp [results, Try.results39, go_sem, t0, t1, t2]) rfl ?_
      exact Hst.out.finish Hw0.out (show w.heap.size ≤ w.heap.size + 1 + 1 by omega) Hz.out _ (by rw [HAp.out]) (by rw [HAp.out]; exact HXs.out) (by rw [HAp.out]) (fun x hx => (Hold.out x hx).below (below_setRow1 (Hw0.out.trans (Hst.out.b.mono Hw0.out.size)) (by omega) _))
    · subst hk15
      have HAp := Lib.hid (show applyB b ⟨tm, 15, ac, sb, nu, nm, vl⟩ = b by unfold applyB; dsimp only; rw [if_neg (by omega), if_neg (by omega), if_neg (by omega), if_pos (by omega)])
      clear c0 c1 c2 d0 d2 d3 d4 d5 d6 p0 p1 p2
      obtain ⟨u0, u1, u2⟩ : V.cell? ⟨g, 0, none⟩ = _ ∧ V.cell? ⟨g, 1, none⟩ = _ ∧ V.cell? ⟨g, 2, none⟩ = _ := ⟨cell_of_row V _ 0 _ _ _ Hst.out.row, cell_of_row V _ 1 _ _ _ Hst.out.row, cell_of_row V _ 2 _ _ _ Hst.out.row⟩
      go_upto_region 15 with (fail)
      have t0 := cell_setRow_same V (w.heap.size + 1 + 1) 0 _ #[.slice b1 b.accs.length q1, .slice b2 X.length q2, .slice b3 b.ended.length q3] _ _ (HR2.out V Hst.out.b)
      have t1 := cell_setRow_same V (w.heap.size + 1 + 1) 1 _ #[.slice b1 b.accs.length q1, .slice b2 X.length q2, .slice b3 b.ended.length q3] _ _ (HR2.out V Hst.out.b)
      have t2 := cell_setRow_same V (w.heap.size + 1 + 1) 2 _ #[.slice b1 b.accs.length q1, .slice b2 X.length q2, .slice b3 b.ended.length q3] _ _ (HR2.out V Hst.out.b)
      repeat (first | refine wpList_store_row rfl _ _ _ rfl (w.heap.size + 1 + 1) #[.slice b1 b.accs.length q1, .slice b2 X.length q2, .slice b3 b.ended.length q3] rfl rfl 72 _ (HR2.out V Hst.out.b) (by kernel_rfl) rfl (by simp [Value.oneCell']) ?_ | go_step)
      refine bodyPost_ret (v := .agg #[.slice b1 b.accs.length q1, .slice b2 X.length q2, .slice b3 b.ended.length q3]) (by simp [results, Try.results39, go_sem, t0, t1, t2]) rfl ?_
      exact Hst.out.finish Hw0.out (show w.heap.size ≤ w.heap.size + 1 + 1 by omega) Hz.out _ (by rw [HAp.out]) (by rw [HAp.out]; exact HXs.out) (by rw [HAp.out]) (fun x hx => (Hold.out x hx).below (below_setRow1 (Hw0.out.trans (Hst.out.b.mono Hw0.out.size)) (by omega) _))

set_option maxRecDepth 100000 in
set_option maxHeartbeats 12800000 in
theorem apply_2 (va vs ve : Value) (X : List SbX) (b : Bk) (ev : Ev) (last : Int) (w : World) (h : BkAt w va vs ve X b) (hok : OkEv b last ev) (hkd : ev.kd = 2) (hsm : Small b 1000) (hn : ev.nu.size ≤ maxLen) (hm : ev.nm.size ≤ maxLen) :
    Calls Try.prog 39 #[.agg #[va, vs, ve], evVal ev] w (ApplyTo (applyB b ev) w) := by
  have HXl := Lib.hid h.len
  have hXb : X.length ≤ 1000 := by rw [h.len]; exact hsm.s
  have hsa := hsm.a
  have hss := hsm.s
  have hse := hsm.e
  obtain ⟨tm, kd, ac, sb, nu, nm, vl⟩ := ev
  have hh := h
  obtain ⟨aa, an, rfl, hla, hma⟩ := rec_shape h.a
  obtain ⟨sa, sn, rfl, hls, hms⟩ := rec_shape h.s
  obtain ⟨ea, en, rfl, -, -⟩ := rec_shape h.e
  obtain ⟨W, hW, r0, r1, r2, hw0, hz⟩ := three_rows w (Obj.cells #[.slice aa b.accs.length an, .slice sa X.length sn, .slice ea b.ended.length en] 72) (Obj.cells #[.int .i64 tm, .int .i64 kd, .int .i64 ac, .int .i64 sb, .string nu, .string nm, .int .i64 vl] 55) (Obj.cells #[.slice none 0 0, .slice none 0 0, .slice none 0 0] 72)
  have HC := Lib.hid (show ∀ Y, Below W.heap.size W Y → Y.cell? ⟨w.heap.size, 0, none⟩ = some (.slice aa b.accs.length an) ∧ Y.cell? ⟨w.heap.size, 1, none⟩ = some (.slice sa X.length sn) ∧ Y.cell? ⟨w.heap.size, 2, none⟩ = some (.slice ea b.ended.length en) ∧
      Y.cell? ⟨w.heap.size + 1, 0, none⟩ = some (.int .i64 tm) ∧ Y.cell? ⟨w.heap.size + 1, 1, none⟩ = some (.int .i64 kd) ∧ Y.cell? ⟨w.heap.size + 1, 2, none⟩ = some (.int .i64 ac) ∧ Y.cell? ⟨w.heap.size + 1, 3, none⟩ = some (.int .i64 sb) ∧ Y.cell? ⟨w.heap.size + 1, 4, none⟩ = some (.string nu) ∧ Y.cell? ⟨w.heap.size + 1, 5, none⟩ = some (.string nm) ∧ Y.cell? ⟨w.heap.size + 1, 6, none⟩ = some (.int .i64 vl) from fun Y hb => by
    have q := (hb.block _ (by omega)).trans r0
    have p := (hb.block _ (by omega)).trans r1
    exact ⟨cell_of_row Y _ 0 _ _ _ q, cell_of_row Y _ 1 _ _ _ q, cell_of_row Y _ 2 _ _ _ q, cell_of_row Y _ 0 _ _ _ p, cell_of_row Y _ 1 _ _ _ p, cell_of_row Y _ 2 _ _ _ p, cell_of_row Y _ 3 _ _ _ p, cell_of_row Y _ 4 _ _ _ p, cell_of_row Y _ 5 _ _ _ p, cell_of_row Y _ 6 _ _ _ p⟩)
  have HBk := Lib.hid (show ∀ Y, Below W.heap.size W Y → BkAt Y (.slice aa b.accs.length an) (.slice sa X.length sn) (.slice ea b.ended.length en) X b from fun Y hb => hh.below (hw0.trans (hb.mono hw0.size)))
  have HR2 := Lib.hid (show ∀ Y, Below W.heap.size W Y → Y.heap[w.heap.size + 1 + 1]? = some (Obj.cells #[.slice none 0 0, .slice none 0 0, .slice none 0 0] 72) from fun Y hb => (hb.block _ hz).trans r2)
  have HSt := Lib.hid (fun (w1 w2 : World) (hb : Below w1.heap.size w1 w2) => @apPhi_stays w W (.slice aa b.accs.length an) (.slice sa X.length sn) (.slice ea b.ended.length en) b.accs X b.ended w1 w2 hb)
  unfold evVal
  dsimp only
  dsimp only at hkd
  have Hkd := Lib.hid hkd
  clear hkd
  have HW := Lib.hid hW
  have Hw0 := Lib.hid hw0
  have Hz := Lib.hid hz
  have Hold := Lib.hid h.r
  have HXs := Lib.hid h.x
  have Hok := Lib.hid hok
  have Hsm := Lib.hid hsm
  have Hsz := Lib.hid (And.intro hn hm)
  clear hW r0 r1 r2 hw0 h hh hok hsm hn hm
  go_enter Try.func39, Try.ntmps39
  go_upto_region 1 with (fail)
  rw [← HW.out]
  refine wp_region_free2 (fun w' => Below W.heap.size W w') (apPhi w W (.slice aa b.accs.length an) (.slice sa X.length sn) (.slice ea b.ended.length en) b.accs X b.ended) (by kernel_rfl) (by decide) (by kernel_rfl) (Below.refl _ _).drew ?_
  generalize hfr : (fun v : Nat → Value => _) = fr
  simp only [List.map_cons, List.map_nil, putsL, List.setIfInBounds_toArray, List.set_cons_succ, List.set_cons_zero, Nat.zero_add, Nat.reduceAdd] at hfr
  simp only [FreeOps]
  refine ⟨?_, ?_, ?_, ?_, ?_, ?_, ?_, ?_, ?_, ?_, ?_, ?_, ?_, ?_, ?_⟩
  · intro v w1 hC hd K hK
    rw [← hfr] at hK ⊢
    go_simp
    exact hK _ _ (hC.alloc hC.size _) (HSt.out _ _ ((Below.refl _ _).alloc (Nat.le_refl _) _)) ⟨_, rfl, own_down (own_empty w1 _) hC.size⟩
  · intro v w1 hC hd K hK
    rw [← hfr] at hK ⊢
    go_simp
    exact hK _ _ hC (HSt.out _ _ (Below.refl _ _)) rfl
  · intro v w1 hC hd K hK
    obtain ⟨hv, -⟩ := hd
    have hv : v 1 = _ := hv
    obtain ⟨c0, c1, c2, -⟩ := HC.out w1 hC
    rw [← hfr] at hK ⊢
    simp only [hv] at hK ⊢
    go_simp
    exact hK _ _ hC (HSt.out _ _ (Below.refl _ _)) rfl
  · intro v w1 hC hd K hK
    obtain ⟨⟨g0, hv0, ho0⟩, hv2, -⟩ := hd
    have hv2 : v 2 = _ := hv2
    refine wp_append_copy (c := acCells) (sz := 6) (fun _ => rfl) ac_one 88 68 _ 56 Try.underlying68 Try.accInfo rfl (by decide) rfl _ _ rfl W.heap.size hC.size (some ⟨g0, 0, none⟩) _ b.accs (by rw [← hfr]; exact hv0) (by rw [← hfr]; exact hv2) ho0 (HBk.out w1 hC).a (by unfold maxLen; omega) (by omega) (fun v' w' h1 h2 => ?_)
    exact hK _ _ (hC.trans (h2.mono hC.size)) (HSt.out _ _ h2) h1
  · intro v w1 hC hd K hK
    rw [← hfr] at hK ⊢
    go_simp
    exact hK _ _ (hC.alloc hC.size _) (HSt.out _ _ ((Below.refl _ _).alloc (Nat.le_refl _) _)) ⟨_, rfl, own_down (own_empty w1 _) hC.size⟩
  · intro v w1 hC hd K hK
    rw [← hfr] at hK ⊢
    go_simp
    exact hK _ _ hC (HSt.out _ _ (Below.refl _ _)) rfl
  · intro v w1 hC hd K hK
    obtain ⟨hv, -⟩ := hd
    have hv : v 5 = _ := hv
    obtain ⟨c0, c1, c2, -⟩ := HC.out w1 hC
    rw [← hfr] at hK ⊢
    simp only [hv] at hK ⊢
    go_simp
    exact hK _ _ hC (HSt.out _ _ (Below.refl _ _)) rfl
  · intro v w1 hC hd K hK
    obtain ⟨⟨g0, hv0, ho0⟩, hv2, -⟩ := hd
    have hv2 : v 6 = _ := hv2
    refine wp_append_copy (c := sbCells) (sz := 8) (fun _ => rfl) sb_one 92 69 _ 96 Try.underlying69 Try.subInfo rfl (by decide) rfl _ _ rfl W.heap.size hC.size (some ⟨g0, 0, none⟩) _ X (by rw [← hfr]; exact hv0) (by rw [← hfr]; exact hv2) ho0 (HBk.out w1 hC).s (by unfold maxLen; omega) (by omega) (fun v' w' h1 h2 => ?_)
    exact hK _ _ (hC.trans (h2.mono hC.size)) (HSt.out _ _ h2) h1
  · intro v w1 hC hd K hK
    rw [← hfr] at hK ⊢
    go_simp
    exact hK _ _ (hC.alloc hC.size _) (HSt.out _ _ ((Below.refl _ _).alloc (Nat.le_refl _) _)) ⟨_, rfl, own_down (own_empty w1 _) hC.size⟩
  · intro v w1 hC hd K hK
    rw [← hfr] at hK ⊢
    go_simp
    exact hK _ _ hC (HSt.out _ _ (Below.refl _ _)) rfl
  · intro v w1 hC hd K hK
    obtain ⟨hv, -⟩ := hd
    have hv : v 9 = _ := hv
    obtain ⟨c0, c1, c2, -⟩ := HC.out w1 hC
    rw [← hfr] at hK ⊢
    simp only [hv] at hK ⊢
    go_simp
    exact hK _ _ hC (HSt.out _ _ (Below.refl _ _)) rfl
  · intro v w1 hC hd K hK
    obtain ⟨⟨g0, hv0, ho0⟩, hv2, -⟩ := hd
    have hv2 : v 10 = _ := hv2
    refine wp_append_copy (c := icCells) (sz := 1) (fun _ => rfl) ic_one 3 70 _ 8 Try.underlying70 Try.intInfo rfl (by decide) rfl _ _ rfl W.heap.size hC.size (some ⟨g0, 0, none⟩) _ b.ended (by rw [← hfr]; exact hv0) (by rw [← hfr]; exact hv2) ho0 (HBk.out w1 hC).e (by unfold maxLen; omega) (by omega) (fun v' w' h1 h2 => ?_)
    exact hK _ _ (hC.trans (h2.mono hC.size)) (HSt.out _ _ h2) h1
  · intro v w1 hC hd K hK
    obtain ⟨h1, h2, h3, -⟩ := hd
    have h1 : w1.ownsRow _ _ _ (v 3) _ _ := h1
    have h2 : w1.ownsRow _ _ _ (v 7) _ _ := h2
    have h3 : w1.ownsRow _ _ _ (v 11) _ _ := h3
    obtain ⟨b1, q1, e1, -, -⟩ := own_shape h1
    obtain ⟨b2, q2, e2, -, -⟩ := own_shape h2
    obtain ⟨b3, q3, e3, -, -⟩ := own_shape h3
    rw [e1] at h1
    rw [e2] at h2
    rw [e3] at h3
    have H := Lib.hid (And.intro h1 (And.intro h2 h3))
    clear h1 h2 h3
    rw [← hfr] at hK ⊢
    simp only [e1, e2, e3] at hK ⊢
    go_simp
    exact hK _ _ hC (HSt.out _ _ (Below.refl _ _)) ⟨_, _, _, rfl, H.out⟩
  · intro v w1 hC hd K hK
    rw [← hfr] at hK ⊢
    go_simp
    exact hK _ _ (hC.alloc hC.size _) (HSt.out _ _ ((Below.refl _ _).alloc (Nat.le_refl _) _)) ⟨_, _, rfl, hC.size, heap_alloc_new _ _, rfl⟩
  · intro v w1 hC hall
    obtain ⟨⟨-, v1, v2, v3, hv12, o1, o2, o3⟩, g, cs, hv13, hg, hrow, hcs⟩ := hall
    have hw12 : v 12 = _ := hv12
    have hw13 : v 13 = _ := hv13
    have hst : BkSt W (w1.setRow g #[v1, v2, v3]) g v1 v2 v3 b.accs X b.ended := ⟨setRow_heap w1 g cs _ _ _ hrow, hg, own_setRow1 o1 (own_other o1 hrow (by decide)) _, own_setRow1 o2 (own_other o2 hrow (by decide)) _, own_setRow1 o3 (own_other o3 hrow (by decide)) _, below_setRow1 hC hg _⟩
    obtain ⟨b1, q1, rfl, -, -⟩ := own_shape o1
    obtain ⟨b2, q2, rfl, -, -⟩ := own_shape o2
    obtain ⟨b3, q3, rfl, -, -⟩ := own_shape o3
    refine wp_store_row _ _ _ rfl g #[.slice b1 b.accs.length q1, .slice b2 X.length q2, .slice b3 b.ended.length q3] (by rw [← hfr]; exact hv13) (by rw [← hfr]; exact hv12) 72 cs hrow (by kernel_rfl) hcs (by simp [Value.oneCell']) ?_
    have Hst := Lib.hid hst
    clear hst o1 o2 o3 hrow hC
    obtain ⟨V, hV⟩ : ∃ V, V = w1.setRow g #[.slice b1 b.accs.length q1, .slice b2 X.length q2, .slice b3 b.ended.length q3] := ⟨_, rfl⟩
    rw [← hV] at Hst ⊢
    clear hV
    rw [← hfr]
    simp only [hw12, hw13]
    generalize v 0 = y0, v 1 = y1, v 2 = y2, v 3 = y3, v 4 = y4, v 5 = y5, v 6 = y6, v 7 = y7, v 8 = y8, v 9 = y9, v 10 = y10, v 11 = y11
    clear hv12 hv13 hw12 hw13 hfr hcs v HSt
    obtain ⟨c0, c1, c2, d0, d1, d2, d3, d4, d5, d6⟩ := HC.out V Hst.out.b
    have p0 := cell_of_row V _ 0 _ _ _ Hst.out.row
    have p1 := cell_of_row V _ 1 _ _ _ Hst.out.row
    have p2 := cell_of_row V _ 2 _ _ _ Hst.out.row
    have hkd := Hkd.out
    clear Hkd
    subst hkd
    have HAp := Lib.hid (show applyB b ⟨tm, 2, ac, sb, nu, nm, vl⟩ = { b with accs := b.accs.modify (accIx b ac).toNat fun a => { a with clo := true } } from rfl)
    obtain ⟨k, hk, hix, -⟩ := Hok.out.acc rfl (show (2 : Int) ≠ 1 by decide)
    have hix : accIx b ac = k := hix
    have HMd := Lib.hid (modify_set (fun a : Ac => { a with clo := true }) b.accs k hk)
    have Hix := Lib.hid hix
    have hkl : (k : Int) < (b.accs.length : Int) := by omega
    have hk0 : (0 : Int) ≤ (k : Int) := Int.natCast_nonneg _
    obtain ⟨g1, rfl⟩ : ∃ g1, b1 = some ⟨g1, 0, none⟩ := by
      rcases Hst.out.o1.2 with ⟨h1, h2⟩ | ⟨g1, cap', cur, hv, -⟩
      · omega
      · simp only [Value.slice.injEq] at hv
        exact ⟨g1, hv.1⟩
    have HCl := Lib.hid (show ∀ Y, Below V.heap.size V Y → ∃ cl, Y.cell? ⟨g1, k * 6 + 4, none⟩ = some (.bool cl) from fun Y hb => by
      have h1 := (ownsRow_below Hst.out.o1 hb).cellAt (k * 6 + 4) (by omega)
      rw [flat_get acCells 6 (fun _ => rfl) b.accs k 4 hk (by decide)] at h1
      exact ⟨_, h1⟩)
    have HFz := Lib.hid (show ∀ Y, Below V.heap.size V Y → Y.frozen? ⟨g1, k * 6 + 4, none⟩ = false from fun Y hb => (ownsRow_below Hst.out.o1 hb).frozenAt _)
    clear hix c0 c1 c2 d0 d1 d2 d3 d4 d6 d5 p0 p1 p2
    obtain ⟨-, -, -, -, d1, -⟩ := HC.out V Hst.out.b
    go_upto_region 10 with (fail)
    refine wp_region_free2 (fun w' => Below V.heap.size V w') (fun i v _ => v = (match i with
      | 0 => .pointer (some ⟨g, 0, none⟩)
      | 1 => .slice (some ⟨g1, 0, none⟩) b.accs.length q1
      | 2 => .agg #[.slice aa b.accs.length an, .slice sa X.length sn, .slice ea b.ended.length en]
      | 3 => .pointer (some ⟨w.heap.size + 1, 2, none⟩)
      | 4 => .int .i64 ac
      | 5 => .int .i64 k
      | 6 => .pointer (some ⟨g1, k * 6, none⟩)
      | 7 => .pointer (some ⟨g1, k * 6 + 4, none⟩)
      | _ => undef : Value)) (by kernel_rfl) (by decide) (by kernel_rfl) (Below.refl _ _).drew ?_
    generalize hfr : (fun v : Nat → Value => _) = fr
    simp only [List.map_cons, List.map_nil, putsL, List.setIfInBounds_toArray, List.set_cons_succ, List.set_cons_zero, Nat.zero_add, Nat.reduceAdd] at hfr
    simp only [FreeOps]
    refine ⟨?_, ?_, ?_, ?_, ?_, ?_, ?_, ?_, ?_⟩
    · intro v w2 hC hd K hK
      rw [← hfr] at hK ⊢
      go_simp
      exact hK _ _ hC (fun _ _ h => h) rfl
    · intro v w2 hC hd K hK
      obtain ⟨e0, -⟩ := hd
      have e0 : v 0 = _ := e0
      have p0 := cell_of_row w2 _ 0 _ _ _ (Hst.out.below hC).row
      rw [← hfr] at hK ⊢
      simp only [e0] at hK ⊢
      go_simp
      exact hK _ _ hC (fun _ _ h => h) rfl
    · intro v w2 hC hd K hK
      obtain ⟨c0, c1, c2, d0, d1, d2, d3, d4, d5, d6⟩ := HC.out w2 (Hst.out.b.trans (hC.mono Hst.out.b.size))
      rw [← hfr] at hK ⊢
      go_simp
      exact hK _ _ hC (fun _ _ h => h) rfl
    · intro v w2 hC hd K hK
      rw [← hfr] at hK ⊢
      go_simp
      exact hK _ _ hC (fun _ _ h => h) rfl
    · intro v w2 hC hd K hK
      obtain ⟨e3, -⟩ := hd
      have e3 : v 3 = _ := e3
      obtain ⟨c0, c1, c2, d0, d1, d2, d3, d4, d5, d6⟩ := HC.out w2 (Hst.out.b.trans (hC.mono Hst.out.b.size))
      rw [← hfr] at hK ⊢
      simp only [e3] at hK ⊢
      go_simp
      exact hK _ _ hC (fun _ _ h => h) rfl
    · intro v w2 hC hd K hK
      obtain ⟨e2, e4, -⟩ := hd
      have e2 : v 2 = _ := e2
      have e4 : v 4 = _ := e4
      have HA := Lib.hid (account_calls _ _ _ X b ac w2 (HBk.out w2 (Hst.out.b.trans (hC.mono Hst.out.b.size))))
      rw [← hfr] at hK ⊢
      simp only [e2, e4] at hK ⊢
      go_simp
      refine HA.out.mono ?_
      rintro e w3 ⟨rfl, hb3⟩
      exact hK _ _ (hC.trans (hb3.mono hC.size)) (fun _ _ h => h) (by rw [Hix.out])
    · intro v w2 hC hd K hK
      obtain ⟨e1, e5, -⟩ := hd
      have e1 : v 1 = _ := e1
      have e5 : v 5 = _ := e5
      rw [← hfr] at hK ⊢
      simp only [e1, e5] at hK ⊢
      go_simp
      exact hK _ _ hC (fun _ _ h => h) rfl
    · intro v w2 hC hd K hK
      obtain ⟨e6, -⟩ := hd
      have e6 : v 6 = _ := e6
      rw [← hfr] at hK ⊢
      simp only [e6] at hK ⊢
      go_simp
      exact hK _ _ hC (fun _ _ h => h) rfl
    · intro v w2 hC hall
      obtain ⟨-, f7⟩ := hall
      have e7 : v 7 = _ := f7
      obtain ⟨cl, hcl⟩ := HCl.out w2 hC
      have hfz := HFz.out w2 hC
      rw [← hfr]
      simp only [e7]
      go_simp
      have hst2 := Hst.out.below hC
      obtain ⟨so, sg⟩ := hst2.o1.stored (k * 6 + 4) (.bool true)
      rw [flat_set1 (c := acCells) (sz := 6) (fun _ => rfl) b.accs k 4 { b.accs[k] with clo := true } (.bool true) hk (by decide) rfl] at so
      have hst3 := hst2.turn1 (A' := b.accs.set k { b.accs[k] with clo := true }) sg (by rw [List.length_set]; exact so)
      obtain ⟨w6, hw6⟩ : ∃ w6, w6 = w2.setCell ⟨g1, k * 6 + 4, none⟩ (.bool true) := ⟨_, rfl⟩
      rw [← hw6] at hst3 ⊢
      have Hst6 := Lib.hid hst3
      generalize v 0 = y0, v 1 = y1, v 2 = y2, v 3 = y3, v 4 = y4, v 5 = y5, v 6 = y6
      clear hst3 hst2 so sg hw6 hcl hfz e7 f7 hfr v hC HCl HFz
      obtain ⟨u0, u1, u2⟩ : w6.cell? ⟨g, 0, none⟩ = _ ∧ w6.cell? ⟨g, 1, none⟩ = _ ∧ w6.cell? ⟨g, 2, none⟩ = _ := ⟨cell_of_row w6 _ 0 _ _ _ Hst6.out.row, cell_of_row w6 _ 1 _ _ _ Hst6.out.row, cell_of_row w6 _ 2 _ _ _ Hst6.out.row⟩
      go_upto_region 16 with (fail)
      have t0 := cell_setRow_same w6 (w.heap.size + 1 + 1) 0 _ #[.slice (some ⟨g1, 0, none⟩) b.accs.length q1, .slice b2 X.length q2, .slice b3 b.ended.length q3] _ _ (HR2.out w6 Hst6.out.b)
      have t1 := cell_setRow_same w6 (w.heap.size + 1 + 1) 1 _ #[.slice (some ⟨g1, 0, none⟩) b.accs.length q1, .slice b2 X.length q2, .slice b3 b.ended.length q3] _ _ (HR2.out w6 Hst6.out.b)
      have t2 := cell_setRow_same w6 (w.heap.size + 1 + 1) 2 _ #[.slice (some ⟨g1, 0, none⟩) b.accs.length q1, .slice b2 X.length q2, .slice b3 b.ended.length q3] _ _ (HR2.out w6 Hst6.out.b)
      repeat (first | refine wpList_store_row rfl _ _ _ rfl (w.heap.size + 1 + 1) #[.slice (some ⟨g1, 0, none⟩) b.accs.length q1, .slice b2 X.length q2, .slice b3 b.ended.length q3] rfl rfl 72 _ (HR2.out w6 Hst6.out.b) (by kernel_rfl) rfl (by simp [Value.oneCell']) ?_ | go_step)
      refine bodyPost_ret (v := .agg #[.slice (some ⟨g1, 0, none⟩) b.accs.length q1, .slice b2 X.length q2, .slice b3 b.ended.length q3]) (by simp [results, Try.results39, go_sem, t0, t1, t2]) rfl ?_
      exact Hst6.out.finish Hw0.out (show w.heap.size ≤ w.heap.size + 1 + 1 by omega) Hz.out _ (by rw [HAp.out, Hix.out]; exact HMd.out.symm) (by rw [HAp.out]; exact HXs.out) (by rw [HAp.out]) (fun x hx => (Hold.out x hx).below (below_setRow1 (Hw0.out.trans (Hst6.out.b.mono Hw0.out.size)) (by omega) _))
end Go.Proofs.Ytmilpaibkemmdaa
