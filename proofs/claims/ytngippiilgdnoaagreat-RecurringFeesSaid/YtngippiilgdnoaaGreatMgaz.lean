/-
  The walk of the first part of Apply: the book is copied.
  The walk of Apply at an event about a subscription; Apply.
  The walk of Check: a list of events that is accepted.
-/
import Derived.Test.YtngippiilgdnoaaGreatMgay
import Derived.Test.YtngippiilgdnoaaGreatMgao
import Derived.Test.YtngippiilgdnoaaGreatMgap
import Derived.Test.YtngippiilgdnoaaGreatMgae
namespace Go.Proofs.YtngippiilgdnoaaGreat
open Go.RowKit

theorem Tryz.accInfo : (Tryz.prog.info? 178).map (fun i => (i.zero, i.size, i.bytes)) = some (some (.agg #[.int .i64 0, .int .i64 0, .int .i64 0, .bool false, .bool false, .slice none 0 0]), 6, 56) := by kernel_rfl
theorem Tryz.subInfo : (Tryz.prog.info? 181).map (fun i => (i.zero, i.size, i.bytes)) = some (some (.agg #[.int .i64 0, .int .i64 0, .int .i64 0, .string ⟨#[]⟩, .slice none 0 0, .slice none 0 0, .bool false, .bool false]), 8, 96) := by kernel_rfl
theorem ac_one (a : Ac) : ∀ u ∈ acCells a, u.oneCell' = true := by
  intro u hu
  simp only [acCells, List.mem_cons, List.not_mem_nil, or_false] at hu
  rcases hu with rfl | rfl | rfl | rfl | rfl | rfl <;> rfl
theorem sb_one (x : SbX) : ∀ u ∈ sbCells x, u.oneCell' = true := by
  intro u hu
  simp only [sbCells, List.mem_cons, List.not_mem_nil, or_false] at hu
  rcases hu with rfl | rfl | rfl | rfl | rfl | rfl | rfl | rfl <;> rfl

/-- What Apply has made: a box of three slices, each a row of the call's own. -/
structure BkSt (W wx : World) (g : Nat) (s1 s2 s3 : Value) (A : List Ac) (X : List SbX) (E : List Int) : Prop where
  row : wx.heap[g]? = some (Obj.cells #[s1, s2, s3] 142)
  hg : W.heap.size ≤ g
  o1 : wx.ownsRow W.heap.size 178 6 s1 A.length (A.flatMap acCells)
  o2 : wx.ownsRow W.heap.size 181 8 s2 X.length (X.flatMap sbCells)
  o3 : wx.ownsRow W.heap.size 3 1 s3 E.length (E.flatMap icCells)
  b : Below W.heap.size W wx
theorem BkSt.below {W wx w2 : World} {g : Nat} {s1 s2 s3 : Value} {A : List Ac} {X : List SbX} {E : List Int} (h : BkSt W wx g s1 s2 s3 A X E) (hb : Below wx.heap.size wx w2) : BkSt W w2 g s1 s2 s3 A X E :=
  ⟨(hb.block _ (Array.getElem?_eq_some_iff.1 h.row).1).trans h.row, h.hg, ownsRow_below h.o1 hb, ownsRow_below h.o2 hb, ownsRow_below h.o3 hb, h.b.trans (hb.mono h.b.size)⟩
theorem BkSt.lt {W wx : World} {g : Nat} {s1 s2 s3 : Value} {A : List Ac} {X : List SbX} {E : List Int} (h : BkSt W wx g s1 s2 s3 A X E) : g < wx.heap.size := (Array.getElem?_eq_some_iff.1 h.row).1
theorem own_setRow1 {w : World} {base : Nat} {e : TypeId} {sz n g : Nat} {v : Value} {xs : List Value} (h : w.ownsRow base e sz v n xs) (hg : v.ownBlock ≠ some g) (cs : Array Value) : (w.setRow g cs).ownsRow base e sz v n xs := by
  obtain ⟨h1, h2⟩ := h
  refine ⟨h1, ?_⟩
  rcases h2 with h2 | ⟨g', cap, cur, hv, hg', hh, r⟩
  · exact Or.inl h2
  · exact Or.inr ⟨g', cap, cur, hv, hg', by rw [setRow_other _ _ _ _ (by intro e; subst hv; exact hg (by rw [← e]; rfl))]; exact hh, r⟩
theorem own_setCell1 {w : World} {base : Nat} {e : TypeId} {sz n g j : Nat} {v u : Value} {xs : List Value} (h : w.ownsRow base e sz v n xs) (hg : v.ownBlock ≠ some g) : (w.setCell ⟨g, j, none⟩ u).ownsRow base e sz v n xs := by
  obtain ⟨h1, h2⟩ := h
  refine ⟨h1, ?_⟩
  rcases h2 with h2 | ⟨g', cap, cur, hv, hg', hh, r⟩
  · exact Or.inl h2
  · exact Or.inr ⟨g', cap, cur, hv, hg', row_other hh (by intro e; subst hv; exact hg (by rw [← e]; rfl)), r⟩
/-- The products of a subscription lie where those of an older one lay, or in new memory. -/
def PaIn (B : Nat) (Y : List SbX) (x : SbX) : Prop := (∃ y ∈ Y, x.pa = y.pa) ∨ FreshA B x.pa
theorem PaIn.old {B : Nat} {Y : List SbX} {x : SbX} (h : x ∈ Y) : PaIn B Y x := Or.inl ⟨x, h, rfl⟩
/-- What Apply returns. -/
def ApplyTo (Y : List SbX) (b : Bk) (w : World) (e : Ending) (w' : World) : Prop := ∃ (a1 a2 a3 : Option Addr) (n1 n2 n3 c1 c2 c3 : Nat) (X : List SbX), e = .returned (.agg #[.slice a1 n1 c1, .slice a2 n2 c2, .slice a3 n3 c3]) ∧ BkAt w' (.slice a1 n1 c1) (.slice a2 n2 c2) (.slice a3 n3 c3) X b ∧ Below w.heap.size w w' ∧ ∀ x ∈ X, PaIn w.heap.size Y x
theorem BkSt.finish {w W wx : World} {g R : Nat} {s1 s2 s3 : Value} {A : List Ac} {X Y : List SbX} {E : List Int} {b : Bk} (h : BkSt W wx g s1 s2 s3 A X E) (hF : ∀ x ∈ X, PaIn w.heap.size Y x) (hw : Below w.heap.size w W) (hR : w.heap.size ≤ R) (hRW : R < W.heap.size) (cs : Array Value)
    (hA : A = b.accs) (hX : X.map (·.s) = b.subs) (hE : E = b.ended) (hr : ∀ x ∈ X, SbRd (wx.setRow R cs) x) : ApplyTo Y b w (.returned (.agg #[s1, s2, s3])) (wx.setRow R cs) := by
  obtain ⟨row, hg, o1, o2, o3, hb⟩ := h
  have key : ∀ {e : TypeId} {sz n : Nat} {v : Value} {xs : List Value}, wx.ownsRow W.heap.size e sz v n xs → v.ownBlock ≠ some R := fun h e => by
    have := (ownsRow_block h R e).1
    omega
  have p1 := own_setRow1 o1 (key o1) cs
  have p2 := own_setRow1 o2 (key o2) cs
  have p3 := own_setRow1 o3 (key o3) cs
  obtain ⟨a1, c1, rfl, -, -⟩ := own_shape o1
  obtain ⟨a2, c2, rfl, -, -⟩ := own_shape o2
  obtain ⟨a3, c3, rfl, -, -⟩ := own_shape o3
  refine ⟨a1, a2, a3, _, _, _, c1, c2, c3, X, rfl, ⟨?_, RecAt.own (fun _ => rfl) p2, hX, hr, ?_⟩, below_setRow1 (hw.trans (hb.mono hw.size)) hR cs, hF⟩
  · rw [← hA]; exact RecAt.own (fun _ => rfl) p1
  · rw [← hE]; exact RecAt.own (fun _ => rfl) p3

/-- The laws of the values of Apply's first statement. -/
def apPhi (w W : World) (va vs ve : Value) (A : List Ac) (X : List SbX) (E : List Int) : Nat → Value → World → Prop
  | 0, v, w' => ∃ g, v = .slice (some ⟨g, 0, none⟩) 0 0 ∧ w'.ownsRow W.heap.size 178 6 (.slice (some ⟨g, 0, none⟩) 0 0) 0 []
  | 1, v, _ => v = .pointer (some ⟨w.heap.size, 0, none⟩)
  | 2, v, _ => v = va
  | 3, v, w' => w'.ownsRow W.heap.size 178 6 v A.length (A.flatMap acCells)
  | 4, v, w' => ∃ g, v = .slice (some ⟨g, 0, none⟩) 0 0 ∧ w'.ownsRow W.heap.size 181 8 (.slice (some ⟨g, 0, none⟩) 0 0) 0 []
  | 5, v, _ => v = .pointer (some ⟨w.heap.size, 1, none⟩)
  | 6, v, _ => v = vs
  | 7, v, w' => w'.ownsRow W.heap.size 181 8 v X.length (X.flatMap sbCells)
  | 8, v, w' => ∃ g, v = .slice (some ⟨g, 0, none⟩) 0 0 ∧ w'.ownsRow W.heap.size 3 1 (.slice (some ⟨g, 0, none⟩) 0 0) 0 []
  | 9, v, _ => v = .pointer (some ⟨w.heap.size, 2, none⟩)
  | 10, v, _ => v = ve
  | 11, v, w' => w'.ownsRow W.heap.size 3 1 v E.length (E.flatMap icCells)
  | 12, v, w' => ∃ v1 v2 v3, v = .agg #[v1, v2, v3] ∧ w'.ownsRow W.heap.size 178 6 v1 A.length (A.flatMap acCells) ∧ w'.ownsRow W.heap.size 181 8 v2 X.length (X.flatMap sbCells) ∧ w'.ownsRow W.heap.size 3 1 v3 E.length (E.flatMap icCells)
  | 13, v, w' => ∃ g cs, v = .pointer (some ⟨g, 0, none⟩) ∧ W.heap.size ≤ g ∧ w'.heap[g]? = some (Obj.cells cs 142) ∧ cs.size = 3
  | _, _, _ => True
theorem apPhi_stays {w W : World} {va vs ve : Value} {A : List Ac} {X : List SbX} {E : List Int} {w1 w2 : World} (hb : Below w1.heap.size w1 w2) : ∀ j y, apPhi w W va vs ve A X E j y w1 → apPhi w W va vs ve A X E j y w2
  | 0, _, ⟨g, h1, h2⟩ => ⟨g, h1, ownsRow_below h2 hb⟩
  | 1, _, h => h
  | 2, _, h => h
  | 3, _, h => ownsRow_below h hb
  | 4, _, ⟨g, h1, h2⟩ => ⟨g, h1, ownsRow_below h2 hb⟩
  | 5, _, h => h
  | 6, _, h => h
  | 7, _, h => ownsRow_below h hb
  | 8, _, ⟨g, h1, h2⟩ => ⟨g, h1, ownsRow_below h2 hb⟩
  | 9, _, h => h
  | 10, _, h => h
  | 11, _, h => ownsRow_below h hb
  | 12, _, ⟨v1, v2, v3, h0, h1, h2, h3⟩ => ⟨v1, v2, v3, h0, ownsRow_below h1 hb, ownsRow_below h2 hb, ownsRow_below h3 hb⟩
  | 13, _, ⟨g, cs, h1, h2, h3, h4⟩ => ⟨g, cs, h1, h2, (hb.block _ (Array.getElem?_eq_some_iff.1 h3).1).trans h3, h4⟩
  | _ + 14, _, _ => trivial
theorem ic_one (n : Int) : ∀ u ∈ icCells n, u.oneCell' = true := by
  intro u hu
  simp only [icCells, List.mem_cons, List.not_mem_nil, or_false] at hu
  rw [hu]; rfl

/-- One cell of a record turned. -/
theorem flat_set1 {α : Type} {c : α → List Value} {sz : Nat} (hc : ∀ a, (c a).length = sz) (l : List α) (k j : Nat) (x : α) (u : Value) (h : k < l.length) (hj : j < sz) (hx : c x = (c l[k]).set j u) : (l.flatMap c).set (k * sz + j) u = (l.set k x).flatMap c := by
  rw [← flat_setR hc l k x h]
  have hlen : (k + 1) * sz ≤ l.length * sz := Nat.mul_le_mul_right _ h
  rw [Nat.succ_mul] at hlen
  have e1 := flat_length c sz hc l
  apply List.ext_getElem?
  intro m
  rw [setsL_get _ _ _ _ (by rw [hc, e1]; exact hlen), hc, hx]
  by_cases hm : k * sz ≤ m ∧ m < k * sz + sz
  · rw [if_pos hm]
    have g2 := flat_get c sz hc l k (m - k * sz) h (by omega)
    rw [show k * sz + (m - k * sz) = m by omega] at g2
    by_cases he : m = k * sz + j
    · subst he
      rw [List.getElem?_set_self (by omega), show k * sz + j - k * sz = j by omega, List.getElem?_set_self (by rw [hc]; exact hj)]
    · rw [List.getElem?_set_ne (by omega), List.getElem?_set_ne (by omega), g2]
  · rw [if_neg hm, List.getElem?_set_ne (by omega)]
theorem modify_set {α : Type} (f : α → α) (l : List α) (k : Nat) (h : k < l.length) : l.modify k f = l.set k (f l[k]) := by
  apply List.ext_getElem
  · simp
  · intro i h1 h2
    rw [List.getElem_modify, List.getElem_set]
    by_cases hk : k = i
    · subst hk; simp
    · rw [if_neg hk, if_neg hk]
theorem BkSt.push1 {W V w5 : World} {g : Nat} {s1 s2 s3 v5 : Value} {A A' : List Ac} {X : List SbX} {E : List Int} (h : BkSt W V g s1 s2 s3 A X E) (ob : Obj) (hg5 : (V.alloc ob).grownBy w5 s1.ownBlock) (ho : w5.ownsRow W.heap.size 178 6 v5 A'.length (A'.flatMap acCells)) :
    w5.heap[g]? = some (Obj.cells #[s1, s2, s3] 142) ∧ BkSt W (w5.setCell ⟨g, 0, none⟩ v5) g v5 s2 s3 A' X E := by
  have hr : (V.alloc ob).heap[g]? = some (Obj.cells #[s1, s2, s3] 142) := (((Below.refl V.heap.size V).alloc (Nat.le_refl _) ob).block g h.lt).trans h.row
  have hr5 := (hg5.block g (by have := h.lt; simp; omega) (Ne.symm (own_other (h.o1.alloc ob) hr (by decide)))).trans hr
  exact ⟨hr5, row_set v5 hr5, h.hg, own_setCell1 ho (own_other ho hr5 (by decide)), own_setCell1 ((h.o2.alloc ob).kept hg5 (own_other2 (h.o2.alloc ob) (h.o1.alloc ob) (by decide))) (own_other ((h.o2.alloc ob).kept hg5 (own_other2 (h.o2.alloc ob) (h.o1.alloc ob) (by decide))) hr5 (by decide)),
    own_setCell1 ((h.o3.alloc ob).kept hg5 (own_other2 (h.o3.alloc ob) (h.o1.alloc ob) (by decide))) (own_other ((h.o3.alloc ob).kept hg5 (own_other2 (h.o3.alloc ob) (h.o1.alloc ob) (by decide))) hr5 (by decide)), ((h.b.alloc h.b.size ob).grown hg5 (by have := h.b.size; simp; omega) (fun k hk => (ownsRow_block h.o1 k hk).1)).setCell h.hg _⟩
theorem BkSt.push2 {W V w5 : World} {g : Nat} {s1 s2 s3 v5 : Value} {A : List Ac} {X X' : List SbX} {E : List Int} (h : BkSt W V g s1 s2 s3 A X E) (ob : Obj) (hg5 : (V.alloc ob).grownBy w5 s2.ownBlock) (ho : w5.ownsRow W.heap.size 181 8 v5 X'.length (X'.flatMap sbCells)) :
    w5.heap[g]? = some (Obj.cells #[s1, s2, s3] 142) ∧ BkSt W (w5.setCell ⟨g, 1, none⟩ v5) g s1 v5 s3 A X' E := by
  have hr : (V.alloc ob).heap[g]? = some (Obj.cells #[s1, s2, s3] 142) := (((Below.refl V.heap.size V).alloc (Nat.le_refl _) ob).block g h.lt).trans h.row
  have hr5 := (hg5.block g (by have := h.lt; simp; omega) (Ne.symm (own_other (h.o2.alloc ob) hr (by decide)))).trans hr
  exact ⟨hr5, row_set v5 hr5, h.hg, own_setCell1 ((h.o1.alloc ob).kept hg5 (own_other2 (h.o1.alloc ob) (h.o2.alloc ob) (by decide))) (own_other ((h.o1.alloc ob).kept hg5 (own_other2 (h.o1.alloc ob) (h.o2.alloc ob) (by decide))) hr5 (by decide)), own_setCell1 ho (own_other ho hr5 (by decide)),
    own_setCell1 ((h.o3.alloc ob).kept hg5 (own_other2 (h.o3.alloc ob) (h.o2.alloc ob) (by decide))) (own_other ((h.o3.alloc ob).kept hg5 (own_other2 (h.o3.alloc ob) (h.o2.alloc ob) (by decide))) hr5 (by decide)), ((h.b.alloc h.b.size ob).grown hg5 (by have := h.b.size; simp; omega) (fun k hk => (ownsRow_block h.o2 k hk).1)).setCell h.hg _⟩
theorem BkSt.push3 {W V w5 : World} {g : Nat} {s1 s2 s3 v5 : Value} {A : List Ac} {X : List SbX} {E E' : List Int} (h : BkSt W V g s1 s2 s3 A X E) (ob : Obj) (hg5 : (V.alloc ob).grownBy w5 s3.ownBlock) (ho : w5.ownsRow W.heap.size 3 1 v5 E'.length (E'.flatMap icCells)) :
    w5.heap[g]? = some (Obj.cells #[s1, s2, s3] 142) ∧ BkSt W (w5.setCell ⟨g, 2, none⟩ v5) g s1 s2 v5 A X E' := by
  have hr : (V.alloc ob).heap[g]? = some (Obj.cells #[s1, s2, s3] 142) := (((Below.refl V.heap.size V).alloc (Nat.le_refl _) ob).block g h.lt).trans h.row
  have hr5 := (hg5.block g (by have := h.lt; simp; omega) (Ne.symm (own_other (h.o3.alloc ob) hr (by decide)))).trans hr
  exact ⟨hr5, row_set v5 hr5, h.hg, own_setCell1 ((h.o1.alloc ob).kept hg5 (own_other2 (h.o1.alloc ob) (h.o3.alloc ob) (by decide))) (own_other ((h.o1.alloc ob).kept hg5 (own_other2 (h.o1.alloc ob) (h.o3.alloc ob) (by decide))) hr5 (by decide)),
    own_setCell1 ((h.o2.alloc ob).kept hg5 (own_other2 (h.o2.alloc ob) (h.o3.alloc ob) (by decide))) (own_other ((h.o2.alloc ob).kept hg5 (own_other2 (h.o2.alloc ob) (h.o3.alloc ob) (by decide))) hr5 (by decide)), own_setCell1 ho (own_other ho hr5 (by decide)), ((h.b.alloc h.b.size ob).grown hg5 (by have := h.b.size; simp; omega) (fun k hk => (ownsRow_block h.o3 k hk).1)).setCell h.hg _⟩
/-- A row of the call's own turned in place. -/
theorem BkSt.turn1 {W V w5 : World} {g : Nat} {s1 s2 s3 : Value} {A A' : List Ac} {X : List SbX} {E : List Int} (h : BkSt W V g s1 s2 s3 A X E) (hg5 : V.grownBy w5 s1.ownBlock) (ho : w5.ownsRow W.heap.size 178 6 s1 A'.length (A'.flatMap acCells)) : BkSt W w5 g s1 s2 s3 A' X E :=
  ⟨(hg5.block g h.lt (Ne.symm (own_other h.o1 h.row (by decide)))).trans h.row, h.hg, ho, h.o2.kept hg5 (own_other2 h.o2 h.o1 (by decide)), h.o3.kept hg5 (own_other2 h.o3 h.o1 (by decide)), h.b.grown hg5 h.b.size (fun k hk => (ownsRow_block h.o1 k hk).1)⟩
theorem BkSt.turn2 {W V w5 : World} {g : Nat} {s1 s2 s3 : Value} {A : List Ac} {X X' : List SbX} {E : List Int} (h : BkSt W V g s1 s2 s3 A X E) (hg5 : V.grownBy w5 s2.ownBlock) (ho : w5.ownsRow W.heap.size 181 8 s2 X'.length (X'.flatMap sbCells)) : BkSt W w5 g s1 s2 s3 A X' E :=
  ⟨(hg5.block g h.lt (Ne.symm (own_other h.o2 h.row (by decide)))).trans h.row, h.hg, h.o1.kept hg5 (own_other2 h.o1 h.o2 (by decide)), ho, h.o3.kept hg5 (own_other2 h.o3 h.o2 (by decide)), h.b.grown hg5 h.b.size (fun k hk => (ownsRow_block h.o2 k hk).1)⟩

set_option maxRecDepth 100000 in
set_option maxHeartbeats 12800000 in
theorem apply_acc (va vs ve : Value) (X : List SbX) (b : Bk) (ev : Ev) (last : Int) (w : World) (h : BkAt w va vs ve X b) (hok : OkEv b last ev) (hkd : ev.kd = 1 ∨ ev.kd = 3 ∨ ev.kd = 14 ∨ ev.kd = 15) (hsm : Small b 1000) (hn : ev.nu.size ≤ maxLen) (hm : ev.nm.size ≤ maxLen) :
    Calls Tryz.prog 72 #[.agg #[va, vs, ve], evVal ev] w (ApplyTo X (applyB b ev) w) := by
  have HXl := Lib.hid h.len
  have hXb : X.length ≤ 1000 := by rw [h.len]; exact hsm.s
  have hsa := hsm.a
  have hss := hsm.s
  have hse := hsm.e
  obtain ⟨tm, kd, ac, sb, nu, nm, vl⟩ := ev
  have hh := h
  obtain ⟨aa, an, rfl, hla, hma⟩ := rec_shape h.a
  obtain ⟨sa, sn, rfl, hls, hms⟩ := rec_shape h.s
  obtain ⟨ea, en, rfl, -, -⟩ := rec_shape h.e
  obtain ⟨W, hW, r0, r1, r2, hw0, hz⟩ := three_rows w (Obj.cells #[.slice aa b.accs.length an, .slice sa X.length sn, .slice ea b.ended.length en] 142) (Obj.cells #[.int .i64 tm, .int .i64 kd, .int .i64 ac, .int .i64 sb, .string nu, .string nm, .int .i64 vl] 55) (Obj.cells #[.slice none 0 0, .slice none 0 0, .slice none 0 0] 142)
  have HC := Lib.hid (show ∀ Y, Below W.heap.size W Y → Y.cell? ⟨w.heap.size, 0, none⟩ = some (.slice aa b.accs.length an) ∧ Y.cell? ⟨w.heap.size, 1, none⟩ = some (.slice sa X.length sn) ∧ Y.cell? ⟨w.heap.size, 2, none⟩ = some (.slice ea b.ended.length en) ∧
      Y.cell? ⟨w.heap.size + 1, 0, none⟩ = some (.int .i64 tm) ∧ Y.cell? ⟨w.heap.size + 1, 1, none⟩ = some (.int .i64 kd) ∧ Y.cell? ⟨w.heap.size + 1, 2, none⟩ = some (.int .i64 ac) ∧ Y.cell? ⟨w.heap.size + 1, 3, none⟩ = some (.int .i64 sb) ∧ Y.cell? ⟨w.heap.size + 1, 4, none⟩ = some (.string nu) ∧ Y.cell? ⟨w.heap.size + 1, 5, none⟩ = some (.string nm) ∧ Y.cell? ⟨w.heap.size + 1, 6, none⟩ = some (.int .i64 vl) from fun Y hb => by
    have q := (hb.block _ (by omega)).trans r0
    have p := (hb.block _ (by omega)).trans r1
    exact ⟨cell_of_row Y _ 0 _ _ _ q, cell_of_row Y _ 1 _ _ _ q, cell_of_row Y _ 2 _ _ _ q, cell_of_row Y _ 0 _ _ _ p, cell_of_row Y _ 1 _ _ _ p, cell_of_row Y _ 2 _ _ _ p, cell_of_row Y _ 3 _ _ _ p, cell_of_row Y _ 4 _ _ _ p, cell_of_row Y _ 5 _ _ _ p, cell_of_row Y _ 6 _ _ _ p⟩)
  have HBk := Lib.hid (show ∀ Y, Below W.heap.size W Y → BkAt Y (.slice aa b.accs.length an) (.slice sa X.length sn) (.slice ea b.ended.length en) X b from fun Y hb => hh.below (hw0.trans (hb.mono hw0.size)))
  have HR2 := Lib.hid (show ∀ Y, Below W.heap.size W Y → Y.heap[w.heap.size + 1 + 1]? = some (Obj.cells #[.slice none 0 0, .slice none 0 0, .slice none 0 0] 142) from fun Y hb => (hb.block _ hz).trans r2)
  have HSt := Lib.hid (fun (w1 w2 : World) (hb : Below w1.heap.size w1 w2) => @apPhi_stays w W (.slice aa b.accs.length an) (.slice sa X.length sn) (.slice ea b.ended.length en) b.accs X b.ended w1 w2 hb)
  unfold evVal
  dsimp only
  dsimp only at hkd
  have Hkd := Lib.hid hkd
  clear hkd
  have HW := Lib.hid hW
  have Hw0 := Lib.hid hw0
  have Hz := Lib.hid hz
  have Hold := Lib.hid h.r
  have HXs := Lib.hid h.x
  have Hok := Lib.hid hok
  have Hsm := Lib.hid hsm
  have Hsz := Lib.hid (And.intro hn hm)
  clear hW r0 r1 r2 hw0 h hh hok hsm hn hm
  go_enter Tryz.func72, Tryz.ntmps72
  go_upto_region 1 with (fail)
  rw [← HW.out]
  refine wp_region_free2 (fun w' => Below W.heap.size W w') (apPhi w W (.slice aa b.accs.length an) (.slice sa X.length sn) (.slice ea b.ended.length en) b.accs X b.ended) (by kernel_rfl) (by decide) (by kernel_rfl) (Below.refl _ _).drew ?_
  generalize hfr : (fun v : Nat → Value => _) = fr
  simp only [List.map_cons, List.map_nil, putsL, List.setIfInBounds_toArray, List.set_cons_succ, List.set_cons_zero, Nat.zero_add, Nat.reduceAdd] at hfr
  simp only [FreeOps]
  refine ⟨?_, ?_, ?_, ?_, ?_, ?_, ?_, ?_, ?_, ?_, ?_, ?_, ?_, ?_, ?_⟩
  · intro v w1 hC hd K hK
    rw [← hfr] at hK ⊢
    go_simp
    exact hK _ _ (hC.alloc hC.size _) (HSt.out _ _ ((Below.refl _ _).alloc (Nat.le_refl _) _)) ⟨_, rfl, own_down (own_empty w1 _) hC.size⟩
  · intro v w1 hC hd K hK
    rw [← hfr] at hK ⊢
    go_simp
    exact hK _ _ hC (HSt.out _ _ (Below.refl _ _)) rfl
  · intro v w1 hC hd K hK
    obtain ⟨hv, -⟩ := hd
    have hv : v 1 = _ := hv
    obtain ⟨c0, c1, c2, -⟩ := HC.out w1 hC
    rw [← hfr] at hK ⊢
    simp only [hv] at hK ⊢
    go_simp
    exact hK _ _ hC (HSt.out _ _ (Below.refl _ _)) rfl
  · intro v w1 hC hd K hK
    obtain ⟨⟨g0, hv0, ho0⟩, hv2, -⟩ := hd
    have hv2 : v 2 = _ := hv2
    refine wp_append_copy (c := acCells) (sz := 6) (fun _ => rfl) ac_one 178 139 _ 56 Tryz.underlying139 Tryz.accInfo rfl (by decide) rfl _ _ rfl W.heap.size hC.size (some ⟨g0, 0, none⟩) _ b.accs (by rw [← hfr]; exact hv0) (by rw [← hfr]; exact hv2) ho0 (HBk.out w1 hC).a (by unfold maxLen; omega) (by omega) (fun v' w' h1 h2 => ?_)
    exact hK _ _ (hC.trans (h2.mono hC.size)) (HSt.out _ _ h2) h1
  · intro v w1 hC hd K hK
    rw [← hfr] at hK ⊢
    go_simp
    exact hK _ _ (hC.alloc hC.size _) (HSt.out _ _ ((Below.refl _ _).alloc (Nat.le_refl _) _)) ⟨_, rfl, own_down (own_empty w1 _) hC.size⟩
  · intro v w1 hC hd K hK
    rw [← hfr] at hK ⊢
    go_simp
    exact hK _ _ hC (HSt.out _ _ (Below.refl _ _)) rfl
  · intro v w1 hC hd K hK
    obtain ⟨hv, -⟩ := hd
    have hv : v 5 = _ := hv
    obtain ⟨c0, c1, c2, -⟩ := HC.out w1 hC
    rw [← hfr] at hK ⊢
    simp only [hv] at hK ⊢
    go_simp
    exact hK _ _ hC (HSt.out _ _ (Below.refl _ _)) rfl
  · intro v w1 hC hd K hK
    obtain ⟨⟨g0, hv0, ho0⟩, hv2, -⟩ := hd
    have hv2 : v 6 = _ := hv2
    refine wp_append_copy (c := sbCells) (sz := 8) (fun _ => rfl) sb_one 181 140 _ 96 Tryz.underlying140 Tryz.subInfo rfl (by decide) rfl _ _ rfl W.heap.size hC.size (some ⟨g0, 0, none⟩) _ X (by rw [← hfr]; exact hv0) (by rw [← hfr]; exact hv2) ho0 (HBk.out w1 hC).s (by unfold maxLen; omega) (by omega) (fun v' w' h1 h2 => ?_)
    exact hK _ _ (hC.trans (h2.mono hC.size)) (HSt.out _ _ h2) h1
  · intro v w1 hC hd K hK
    rw [← hfr] at hK ⊢
    go_simp
    exact hK _ _ (hC.alloc hC.size _) (HSt.out _ _ ((Below.refl _ _).alloc (Nat.le_refl _) _)) ⟨_, rfl, own_down (own_empty w1 _) hC.size⟩
  · intro v w1 hC hd K hK
    rw [← hfr] at hK ⊢
    go_simp
    exact hK _ _ hC (HSt.out _ _ (Below.refl _ _)) rfl
  · intro v w1 hC hd K hK
    obtain ⟨hv, -⟩ := hd
    have hv : v 9 = _ := hv
    obtain ⟨c0, c1, c2, -⟩ := HC.out w1 hC
    rw [← hfr] at hK ⊢
    simp only [hv] at hK ⊢
    go_simp
    exact hK _ _ hC (HSt.out _ _ (Below.refl _ _)) rfl
  · intro v w1 hC hd K hK
    obtain ⟨⟨g0, hv0, ho0⟩, hv2, -⟩ := hd
    have hv2 : v 10 = _ := hv2
    refine wp_append_copy (c := icCells) (sz := 1) (fun _ => rfl) ic_one 3 96 _ 8 Tryz.underlying96 Tryz.intInfo rfl (by decide) rfl _ _ rfl W.heap.size hC.size (some ⟨g0, 0, none⟩) _ b.ended (by rw [← hfr]; exact hv0) (by rw [← hfr]; exact hv2) ho0 (HBk.out w1 hC).e (by unfold maxLen; omega) (by omega) (fun v' w' h1 h2 => ?_)
    exact hK _ _ (hC.trans (h2.mono hC.size)) (HSt.out _ _ h2) h1
  · intro v w1 hC hd K hK
    obtain ⟨h1, h2, h3, -⟩ := hd
    have h1 : w1.ownsRow _ _ _ (v 3) _ _ := h1
    have h2 : w1.ownsRow _ _ _ (v 7) _ _ := h2
    have h3 : w1.ownsRow _ _ _ (v 11) _ _ := h3
    obtain ⟨b1, q1, e1, -, -⟩ := own_shape h1
    obtain ⟨b2, q2, e2, -, -⟩ := own_shape h2
    obtain ⟨b3, q3, e3, -, -⟩ := own_shape h3
    rw [e1] at h1
    rw [e2] at h2
    rw [e3] at h3
    have H := Lib.hid (And.intro h1 (And.intro h2 h3))
    clear h1 h2 h3
    rw [← hfr] at hK ⊢
    simp only [e1, e2, e3] at hK ⊢
    go_simp
    exact hK _ _ hC (HSt.out _ _ (Below.refl _ _)) ⟨_, _, _, rfl, H.out⟩
  · intro v w1 hC hd K hK
    rw [← hfr] at hK ⊢
    go_simp
    exact hK _ _ (hC.alloc hC.size _) (HSt.out _ _ ((Below.refl _ _).alloc (Nat.le_refl _) _)) ⟨_, _, rfl, hC.size, heap_alloc_new _ _, rfl⟩
  · intro v w1 hC hall
    obtain ⟨⟨-, v1, v2, v3, hv12, o1, o2, o3⟩, g, cs, hv13, hg, hrow, hcs⟩ := hall
    have hw12 : v 12 = _ := hv12
    have hw13 : v 13 = _ := hv13
    have hst : BkSt W (w1.setRow g #[v1, v2, v3]) g v1 v2 v3 b.accs X b.ended := ⟨setRow_heap w1 g cs _ _ _ hrow, hg, own_setRow1 o1 (own_other o1 hrow (by decide)) _, own_setRow1 o2 (own_other o2 hrow (by decide)) _, own_setRow1 o3 (own_other o3 hrow (by decide)) _, below_setRow1 hC hg _⟩
    obtain ⟨b1, q1, rfl, -, -⟩ := own_shape o1
    obtain ⟨b2, q2, rfl, -, -⟩ := own_shape o2
    obtain ⟨b3, q3, rfl, -, -⟩ := own_shape o3
    refine wp_store_row _ _ _ rfl g #[.slice b1 b.accs.length q1, .slice b2 X.length q2, .slice b3 b.ended.length q3] (by rw [← hfr]; exact hv13) (by rw [← hfr]; exact hv12) 142 cs hrow (by kernel_rfl) hcs (by simp [Value.oneCell']) ?_
    have Hst := Lib.hid hst
    clear hst o1 o2 o3 hrow hC
    obtain ⟨V, hV⟩ : ∃ V, V = w1.setRow g #[.slice b1 b.accs.length q1, .slice b2 X.length q2, .slice b3 b.ended.length q3] := ⟨_, rfl⟩
    rw [← hV] at Hst ⊢
    clear hV
    rw [← hfr]
    simp only [hw12, hw13]
    generalize v 0 = y0, v 1 = y1, v 2 = y2, v 3 = y3, v 4 = y4, v 5 = y5, v 6 = y6, v 7 = y7, v 8 = y8, v 9 = y9, v 10 = y10, v 11 = y11
    clear hv12 hv13 hw12 hw13 hfr hcs v HSt
    obtain ⟨c0, c1, c2, d0, d1, d2, d3, d4, d5, d6⟩ := HC.out V Hst.out.b
    have p0 := cell_of_row V _ 0 _ _ _ Hst.out.row
    have p1 := cell_of_row V _ 1 _ _ _ Hst.out.row
    have p2 := cell_of_row V _ 2 _ _ _ Hst.out.row
    rcases Hkd.out with hk1 | hk3 | hk14 | hk15
    · subst hk1
      have HAp := Lib.hid (show applyB b ⟨tm, 1, ac, sb, nu, nm, vl⟩ = { b with accs := b.accs ++ [⟨ac, tm, vl, sameS nm prepaidT, false⟩] } from rfl)
      have hpr : (nm.toList == [112, 114, 101, 112, 97, 105, 100]) = sameS nm prepaidT := by unfold sameS; rw [Lib.toList_data prepaidT]; rfl
      obtain ⟨pr, hpre⟩ : ∃ pr, pr = sameS nm prepaidT := ⟨_, rfl⟩
      rw [← hpre] at hpr HAp
      clear hpre
      have HX1 := Lib.hid (RecAt.one (c := acCells) (sz := 6) V ⟨ac, tm, vl, pr, false⟩ 178 #[.int .i64 ac, .int .i64 tm, .int .i64 vl, .bool pr, .bool false, .slice none 0 0] rfl)
      go_upto_region 8 with (fail)
      go_wp2_with (at_builtin; refine append_rec2 (c := acCells) (sz := 6) (fun _ => rfl) ac_one 178 139 _ 56 Tryz.underlying139 Tryz.accInfo rfl (by decide) rfl _ _ rfl W.heap.size ?hb1 _ _ b.accs [⟨ac, tm, vl, pr, false⟩] rfl rfl (Hst.out.o1.alloc _) HX1.out ?hl1 ?hl2 ?_)
      case hb1 => have := Hst.out.b.size; (try simp); omega
      case hl1 => unfold maxLen; (try simp); omega
      case hl2 => (try simp); omega
      intro R hR v5 w5 own5 hgrow5
      obtain ⟨hrow5, hst6⟩ := Hst.out.push1 _ hgrow5 own5
      obtain ⟨a5, c5, rfl, -, -⟩ := own_shape own5
      have o0 := cell_of_row w5 _ 0 _ _ _ hrow5
      have of0 := frozen_of_row w5 _ 0 _ _ hrow5
      have HRe := Lib.hid hR.out
      obtain ⟨w6, hw6⟩ : ∃ w6, w6 = w5.setCell ⟨g, 0, none⟩ (.slice a5 R.length c5) := ⟨_, rfl⟩
      rw [← hw6] at hst6
      have Hst6 := Lib.hid hst6
      have Hw6 := Lib.hid hw6
      clear own5 hgrow5 hrow5 hst6 hw6 hR c0 c1 c2 d0 d1 d2 d3 d4 d5 d6 p0 p1 p2
      go_upto_region 16 with (fail)
      rw [← Hw6.out]
      clear o0 of0
      obtain ⟨u0, u1, u2⟩ : w6.cell? ⟨g, 0, none⟩ = _ ∧ w6.cell? ⟨g, 1, none⟩ = _ ∧ w6.cell? ⟨g, 2, none⟩ = _ := ⟨cell_of_row w6 _ 0 _ _ _ Hst6.out.row, cell_of_row w6 _ 1 _ _ _ Hst6.out.row, cell_of_row w6 _ 2 _ _ _ Hst6.out.row⟩
      go_upto_region 16 with (fail)
      have t0 := cell_setRow_same w6 (w.heap.size + 1 + 1) 0 _ #[.slice a5 R.length c5, .slice b2 X.length q2, .slice b3 b.ended.length q3] _ _ (HR2.out w6 Hst6.out.b)
      have t1 := cell_setRow_same w6 (w.heap.size + 1 + 1) 1 _ #[.slice a5 R.length c5, .slice b2 X.length q2, .slice b3 b.ended.length q3] _ _ (HR2.out w6 Hst6.out.b)
      have t2 := cell_setRow_same w6 (w.heap.size + 1 + 1) 2 _ #[.slice a5 R.length c5, .slice b2 X.length q2, .slice b3 b.ended.length q3] _ _ (HR2.out w6 Hst6.out.b)
      repeat (first | refine wpList_store_row rfl _ _ _ rfl (w.heap.size + 1 + 1) #[.slice a5 R.length c5, .slice b2 X.length q2, .slice b3 b.ended.length q3] rfl rfl 142 _ (HR2.out w6 Hst6.out.b) (by kernel_rfl) rfl (by simp [Value.oneCell']) ?_ | go_step)
      refine bodyPost_ret (v := .agg #[.slice a5 R.length c5, .slice b2 X.length q2, .slice b3 b.ended.length q3]) (by simp [results, Tryz.results72, go_sem, t0, t1, t2]) rfl ?_
      exact Hst6.out.finish (fun _ hx => PaIn.old hx) Hw0.out (show w.heap.size ≤ w.heap.size + 1 + 1 by omega) Hz.out _ (by rw [HAp.out]; exact HRe.out) (by rw [HAp.out]; exact HXs.out) (by rw [HAp.out]) (fun x hx => (Hold.out x hx).below (below_setRow1 (Hw0.out.trans (Hst6.out.b.mono Hw0.out.size)) (by omega) _))
    · subst hk3
      have HAp := Lib.hid (show applyB b ⟨tm, 3, ac, sb, nu, nm, vl⟩ = { b with subs := b.subs ++ [⟨sb, ac, tm, nm, [], [], false, false⟩] } from rfl)
      have HX1 := Lib.hid (RecAt.one (c := sbCells) (sz := 8) V ⟨⟨sb, ac, tm, nm, [], [], false, false⟩, none, 0, 0, none, 0, 0⟩ 181 #[.int .i64 sb, .int .i64 ac, .int .i64 tm, .string nm, .slice none 0 0, .slice none 0 0, .bool false, .bool false] rfl)
      go_upto_region 12 with (fail)
      go_wp2_with (at_builtin; refine append_rec2 (c := sbCells) (sz := 8) (fun _ => rfl) sb_one 181 140 _ 96 Tryz.underlying140 Tryz.subInfo rfl (by decide) rfl _ _ rfl W.heap.size ?hb1 _ _ X [⟨⟨sb, ac, tm, nm, [], [], false, false⟩, none, 0, 0, none, 0, 0⟩] rfl rfl (Hst.out.o2.alloc _) HX1.out ?hl1 ?hl2 ?_)
      case hb1 => have := Hst.out.b.size; (try simp); omega
      case hl1 => unfold maxLen; (try simp); omega
      case hl2 => (try simp); omega
      intro R hR v5 w5 own5 hgrow5
      obtain ⟨hrow5, hst6⟩ := Hst.out.push2 _ hgrow5 own5
      obtain ⟨a5, c5, rfl, -, -⟩ := own_shape own5
      have o0 := cell_of_row w5 _ 1 _ _ _ hrow5
      have of0 := frozen_of_row w5 _ 1 _ _ hrow5
      have HRe := Lib.hid hR.out
      have Hr6 := Lib.hid (show ∀ x ∈ R, ∀ Y, Below w.heap.size w Y → SbRd Y x from fun x hx Y hY => by
        rw [HRe.out, List.mem_append, List.mem_singleton] at hx
        rcases hx with hx | rfl
        · exact (Hold.out x hx).below hY
        · exact ⟨SliceAt.nil _, SliceAt.nil _, Hsz.out.2, PlainA.nil, PlainA.nil⟩)
      obtain ⟨w6, hw6⟩ : ∃ w6, w6 = w5.setCell ⟨g, 1, none⟩ (.slice a5 R.length c5) := ⟨_, rfl⟩
      rw [← hw6] at hst6
      have Hst6 := Lib.hid hst6
      have Hw6 := Lib.hid hw6
      clear own5 hgrow5 hrow5 hst6 hw6 hR c0 c1 c2 d0 d1 d2 d3 d4 d5 d6 p0 p1 p2
      go_upto_region 16 with (fail)
      rw [← Hw6.out]
      clear o0 of0
      obtain ⟨u0, u1, u2⟩ : w6.cell? ⟨g, 0, none⟩ = _ ∧ w6.cell? ⟨g, 1, none⟩ = _ ∧ w6.cell? ⟨g, 2, none⟩ = _ := ⟨cell_of_row w6 _ 0 _ _ _ Hst6.out.row, cell_of_row w6 _ 1 _ _ _ Hst6.out.row, cell_of_row w6 _ 2 _ _ _ Hst6.out.row⟩
      go_upto_region 16 with (fail)
      have t0 := cell_setRow_same w6 (w.heap.size + 1 + 1) 0 _ #[.slice b1 b.accs.length q1, .slice a5 R.length c5, .slice b3 b.ended.length q3] _ _ (HR2.out w6 Hst6.out.b)
      have t1 := cell_setRow_same w6 (w.heap.size + 1 + 1) 1 _ #[.slice b1 b.accs.length q1, .slice a5 R.length c5, .slice b3 b.ended.length q3] _ _ (HR2.out w6 Hst6.out.b)
      have t2 := cell_setRow_same w6 (w.heap.size + 1 + 1) 2 _ #[.slice b1 b.accs.length q1, .slice a5 R.length c5, .slice b3 b.ended.length q3] _ _ (HR2.out w6 Hst6.out.b)
      repeat (first | refine wpList_store_row rfl _ _ _ rfl (w.heap.size + 1 + 1) #[.slice b1 b.accs.length q1, .slice a5 R.length c5, .slice b3 b.ended.length q3] rfl rfl 142 _ (HR2.out w6 Hst6.out.b) (by kernel_rfl) rfl (by simp [Value.oneCell']) ?_ | go_step)
      refine bodyPost_ret (v := .agg #[.slice b1 b.accs.length q1, .slice a5 R.length c5, .slice b3 b.ended.length q3]) (by simp [results, Tryz.results72, go_sem, t0, t1, t2]) rfl ?_
      exact Hst6.out.finish (fun x hx => by
        rw [HRe.out] at hx
        rcases List.mem_append.1 hx with hx | hx
        · exact PaIn.old hx
        · rw [List.mem_singleton.1 hx]; exact Or.inr (fun ad e => by cases e)) Hw0.out (show w.heap.size ≤ w.heap.size + 1 + 1 by omega) Hz.out _ (by rw [HAp.out]) (by rw [HAp.out, HRe.out, List.map_append, HXs.out]; rfl) (by rw [HAp.out]) (fun x hx => Hr6.out x hx _ (below_setRow1 (Hw0.out.trans (Hst6.out.b.mono Hw0.out.size)) (by omega) _))
    · subst hk14
      have HAp := Lib.hid (show applyB b ⟨tm, 14, ac, sb, nu, nm, vl⟩ = b by unfold applyB; dsimp only; rw [if_neg (by omega), if_neg (by omega), if_neg (by omega), if_pos (by omega)])
      clear c0 c1 c2 d0 d2 d3 d4 d5 d6 p0 p1 p2
      obtain ⟨u0, u1, u2⟩ : V.cell? ⟨g, 0, none⟩ = _ ∧ V.cell? ⟨g, 1, none⟩ = _ ∧ V.cell? ⟨g, 2, none⟩ = _ := ⟨cell_of_row V _ 0 _ _ _ Hst.out.row, cell_of_row V _ 1 _ _ _ Hst.out.row, cell_of_row V _ 2 _ _ _ Hst.out.row⟩
      go_upto_region 15 with (fail)
      have t0 := cell_setRow_same V (w.heap.size + 1 + 1) 0 _ #[.slice b1 b.accs.length q1, .slice b2 X.length q2, .slice b3 b.ended.length q3] _ _ (HR2.out V Hst.out.b)
      have t1 := cell_setRow_same V (w.heap.size + 1 + 1) 1 _ #[.slice b1 b.accs.length q1, .slice b2 X.length q2, .slice b3 b.ended.length q3] _ _ (HR2.out V Hst.out.b)
      have t2 := cell_setRow_same V (w.heap.size + 1 + 1) 2 _ #[.slice b1 b.accs.length q1, .slice b2 X.length q2, .slice b3 b.ended.length q3] _ _ (HR2.out V Hst.out.b)
      repeat (first | refine wpList_store_row rfl _ _ _ rfl (w.heap.size + 1 + 1) #[.slice b1 b.accs.length q1, .slice b2 X.length q2, .slice b3 b.ended.length q3] rfl rfl 142 _ (HR2.out V Hst.out.b) (by kernel_rfl) rfl (by simp [Value.oneCell']) ?_ | go_step)
      refine bodyPost_ret (v := .agg #[.slice b1 b.accs.length q1, .slice b2 X.length q2, .slice b3 b.ended.length q3]) (by simp [results, Tryz.results72, go_sem, t0, t1, t2]) rfl ?_
      exact Hst.out.finish (fun _ hx => PaIn.old hx) Hw0.out (show w.heap.size ≤ w.heap.size + 1 + 1 by omega) Hz.out _ (by rw [HAp.out]) (by rw [HAp.out]; exact HXs.out) (by rw [HAp.out]) (fun x hx => (Hold.out x hx).below (below_setRow1 (Hw0.out.trans (Hst.out.b.mono Hw0.out.size)) (by omega) _))
    · subst hk15
      have HAp := Lib.hid (show applyB b ⟨tm, 15, ac, sb, nu, nm, vl⟩ = b by unfold applyB; dsimp only; rw [if_neg (by omega), if_neg (by omega), if_neg (by omega), if_pos (by omega)])
      clear c0 c1 c2 d0 d2 d3 d4 d5 d6 p0 p1 p2
      obtain ⟨u0, u1, u2⟩ : V.cell? ⟨g, 0, none⟩ = _ ∧ V.cell? ⟨g, 1, none⟩ = _ ∧ V.cell? ⟨g, 2, none⟩ = _ := ⟨cell_of_row V _ 0 _ _ _ Hst.out.row, cell_of_row V _ 1 _ _ _ Hst.out.row, cell_of_row V _ 2 _ _ _ Hst.out.row⟩
      go_upto_region 15 with (fail)
      have t0 := cell_setRow_same V (w.heap.size + 1 + 1) 0 _ #[.slice b1 b.accs.length q1, .slice b2 X.length q2, .slice b3 b.ended.length q3] _ _ (HR2.out V Hst.out.b)
      have t1 := cell_setRow_same V (w.heap.size + 1 + 1) 1 _ #[.slice b1 b.accs.length q1, .slice b2 X.length q2, .slice b3 b.ended.length q3] _ _ (HR2.out V Hst.out.b)
      have t2 := cell_setRow_same V (w.heap.size + 1 + 1) 2 _ #[.slice b1 b.accs.length q1, .slice b2 X.length q2, .slice b3 b.ended.length q3] _ _ (HR2.out V Hst.out.b)
      repeat (first | refine wpList_store_row rfl _ _ _ rfl (w.heap.size + 1 + 1) #[.slice b1 b.accs.length q1, .slice b2 X.length q2, .slice b3 b.ended.length q3] rfl rfl 142 _ (HR2.out V Hst.out.b) (by kernel_rfl) rfl (by simp [Value.oneCell']) ?_ | go_step)
      refine bodyPost_ret (v := .agg #[.slice b1 b.accs.length q1, .slice b2 X.length q2, .slice b3 b.ended.length q3]) (by simp [results, Tryz.results72, go_sem, t0, t1, t2]) rfl ?_
      exact Hst.out.finish (fun _ hx => PaIn.old hx) Hw0.out (show w.heap.size ≤ w.heap.size + 1 + 1 by omega) Hz.out _ (by rw [HAp.out]) (by rw [HAp.out]; exact HXs.out) (by rw [HAp.out]) (fun x hx => (Hold.out x hx).below (below_setRow1 (Hw0.out.trans (Hst.out.b.mono Hw0.out.size)) (by omega) _))

set_option maxRecDepth 100000 in
set_option maxHeartbeats 12800000 in
theorem apply_2 (va vs ve : Value) (X : List SbX) (b : Bk) (ev : Ev) (last : Int) (w : World) (h : BkAt w va vs ve X b) (hok : OkEv b last ev) (hkd : ev.kd = 2) (hsm : Small b 1000) (hn : ev.nu.size ≤ maxLen) (hm : ev.nm.size ≤ maxLen) :
    Calls Tryz.prog 72 #[.agg #[va, vs, ve], evVal ev] w (ApplyTo X (applyB b ev) w) := by
  have HXl := Lib.hid h.len
  have hXb : X.length ≤ 1000 := by rw [h.len]; exact hsm.s
  have hsa := hsm.a
  have hss := hsm.s
  have hse := hsm.e
  obtain ⟨tm, kd, ac, sb, nu, nm, vl⟩ := ev
  have hh := h
  obtain ⟨aa, an, rfl, hla, hma⟩ := rec_shape h.a
  obtain ⟨sa, sn, rfl, hls, hms⟩ := rec_shape h.s
  obtain ⟨ea, en, rfl, -, -⟩ := rec_shape h.e
  obtain ⟨W, hW, r0, r1, r2, hw0, hz⟩ := three_rows w (Obj.cells #[.slice aa b.accs.length an, .slice sa X.length sn, .slice ea b.ended.length en] 142) (Obj.cells #[.int .i64 tm, .int .i64 kd, .int .i64 ac, .int .i64 sb, .string nu, .string nm, .int .i64 vl] 55) (Obj.cells #[.slice none 0 0, .slice none 0 0, .slice none 0 0] 142)
  have HC := Lib.hid (show ∀ Y, Below W.heap.size W Y → Y.cell? ⟨w.heap.size, 0, none⟩ = some (.slice aa b.accs.length an) ∧ Y.cell? ⟨w.heap.size, 1, none⟩ = some (.slice sa X.length sn) ∧ Y.cell? ⟨w.heap.size, 2, none⟩ = some (.slice ea b.ended.length en) ∧
      Y.cell? ⟨w.heap.size + 1, 0, none⟩ = some (.int .i64 tm) ∧ Y.cell? ⟨w.heap.size + 1, 1, none⟩ = some (.int .i64 kd) ∧ Y.cell? ⟨w.heap.size + 1, 2, none⟩ = some (.int .i64 ac) ∧ Y.cell? ⟨w.heap.size + 1, 3, none⟩ = some (.int .i64 sb) ∧ Y.cell? ⟨w.heap.size + 1, 4, none⟩ = some (.string nu) ∧ Y.cell? ⟨w.heap.size + 1, 5, none⟩ = some (.string nm) ∧ Y.cell? ⟨w.heap.size + 1, 6, none⟩ = some (.int .i64 vl) from fun Y hb => by
    have q := (hb.block _ (by omega)).trans r0
    have p := (hb.block _ (by omega)).trans r1
    exact ⟨cell_of_row Y _ 0 _ _ _ q, cell_of_row Y _ 1 _ _ _ q, cell_of_row Y _ 2 _ _ _ q, cell_of_row Y _ 0 _ _ _ p, cell_of_row Y _ 1 _ _ _ p, cell_of_row Y _ 2 _ _ _ p, cell_of_row Y _ 3 _ _ _ p, cell_of_row Y _ 4 _ _ _ p, cell_of_row Y _ 5 _ _ _ p, cell_of_row Y _ 6 _ _ _ p⟩)
  have HBk := Lib.hid (show ∀ Y, Below W.heap.size W Y → BkAt Y (.slice aa b.accs.length an) (.slice sa X.length sn) (.slice ea b.ended.length en) X b from fun Y hb => hh.below (hw0.trans (hb.mono hw0.size)))
  have HR2 := Lib.hid (show ∀ Y, Below W.heap.size W Y → Y.heap[w.heap.size + 1 + 1]? = some (Obj.cells #[.slice none 0 0, .slice none 0 0, .slice none 0 0] 142) from fun Y hb => (hb.block _ hz).trans r2)
  have HSt := Lib.hid (fun (w1 w2 : World) (hb : Below w1.heap.size w1 w2) => @apPhi_stays w W (.slice aa b.accs.length an) (.slice sa X.length sn) (.slice ea b.ended.length en) b.accs X b.ended w1 w2 hb)
  unfold evVal
  dsimp only
  dsimp only at hkd
  have Hkd := Lib.hid hkd
  clear hkd
  have HW := Lib.hid hW
  have Hw0 := Lib.hid hw0
  have Hz := Lib.hid hz
  have Hold := Lib.hid h.r
  have HXs := Lib.hid h.x
  have Hok := Lib.hid hok
  have Hsm := Lib.hid hsm
  have Hsz := Lib.hid (And.intro hn hm)
  clear hW r0 r1 r2 hw0 h hh hok hsm hn hm
  go_enter Tryz.func72, Tryz.ntmps72
  go_upto_region 1 with (fail)
  rw [← HW.out]
  refine wp_region_free2 (fun w' => Below W.heap.size W w') (apPhi w W (.slice aa b.accs.length an) (.slice sa X.length sn) (.slice ea b.ended.length en) b.accs X b.ended) (by kernel_rfl) (by decide) (by kernel_rfl) (Below.refl _ _).drew ?_
  generalize hfr : (fun v : Nat → Value => _) = fr
  simp only [List.map_cons, List.map_nil, putsL, List.setIfInBounds_toArray, List.set_cons_succ, List.set_cons_zero, Nat.zero_add, Nat.reduceAdd] at hfr
  simp only [FreeOps]
  refine ⟨?_, ?_, ?_, ?_, ?_, ?_, ?_, ?_, ?_, ?_, ?_, ?_, ?_, ?_, ?_⟩
  · intro v w1 hC hd K hK
    rw [← hfr] at hK ⊢
    go_simp
    exact hK _ _ (hC.alloc hC.size _) (HSt.out _ _ ((Below.refl _ _).alloc (Nat.le_refl _) _)) ⟨_, rfl, own_down (own_empty w1 _) hC.size⟩
  · intro v w1 hC hd K hK
    rw [← hfr] at hK ⊢
    go_simp
    exact hK _ _ hC (HSt.out _ _ (Below.refl _ _)) rfl
  · intro v w1 hC hd K hK
    obtain ⟨hv, -⟩ := hd
    have hv : v 1 = _ := hv
    obtain ⟨c0, c1, c2, -⟩ := HC.out w1 hC
    rw [← hfr] at hK ⊢
    simp only [hv] at hK ⊢
    go_simp
    exact hK _ _ hC (HSt.out _ _ (Below.refl _ _)) rfl
  · intro v w1 hC hd K hK
    obtain ⟨⟨g0, hv0, ho0⟩, hv2, -⟩ := hd
    have hv2 : v 2 = _ := hv2
    refine wp_append_copy (c := acCells) (sz := 6) (fun _ => rfl) ac_one 178 139 _ 56 Tryz.underlying139 Tryz.accInfo rfl (by decide) rfl _ _ rfl W.heap.size hC.size (some ⟨g0, 0, none⟩) _ b.accs (by rw [← hfr]; exact hv0) (by rw [← hfr]; exact hv2) ho0 (HBk.out w1 hC).a (by unfold maxLen; omega) (by omega) (fun v' w' h1 h2 => ?_)
    exact hK _ _ (hC.trans (h2.mono hC.size)) (HSt.out _ _ h2) h1
  · intro v w1 hC hd K hK
    rw [← hfr] at hK ⊢
    go_simp
    exact hK _ _ (hC.alloc hC.size _) (HSt.out _ _ ((Below.refl _ _).alloc (Nat.le_refl _) _)) ⟨_, rfl, own_down (own_empty w1 _) hC.size⟩
  · intro v w1 hC hd K hK
    rw [← hfr] at hK ⊢
    go_simp
    exact hK _ _ hC (HSt.out _ _ (Below.refl _ _)) rfl
  · intro v w1 hC hd K hK
    obtain ⟨hv, -⟩ := hd
    have hv : v 5 = _ := hv
    obtain ⟨c0, c1, c2, -⟩ := HC.out w1 hC
    rw [← hfr] at hK ⊢
    simp only [hv] at hK ⊢
    go_simp
    exact hK _ _ hC (HSt.out _ _ (Below.refl _ _)) rfl
  · intro v w1 hC hd K hK
    obtain ⟨⟨g0, hv0, ho0⟩, hv2, -⟩ := hd
    have hv2 : v 6 = _ := hv2
    refine wp_append_copy (c := sbCells) (sz := 8) (fun _ => rfl) sb_one 181 140 _ 96 Tryz.underlying140 Tryz.subInfo rfl (by decide) rfl _ _ rfl W.heap.size hC.size (some ⟨g0, 0, none⟩) _ X (by rw [← hfr]; exact hv0) (by rw [← hfr]; exact hv2) ho0 (HBk.out w1 hC).s (by unfold maxLen; omega) (by omega) (fun v' w' h1 h2 => ?_)
    exact hK _ _ (hC.trans (h2.mono hC.size)) (HSt.out _ _ h2) h1
  · intro v w1 hC hd K hK
    rw [← hfr] at hK ⊢
    go_simp
    exact hK _ _ (hC.alloc hC.size _) (HSt.out _ _ ((Below.refl _ _).alloc (Nat.le_refl _) _)) ⟨_, rfl, own_down (own_empty w1 _) hC.size⟩
  · intro v w1 hC hd K hK
    rw [← hfr] at hK ⊢
    go_simp
    exact hK _ _ hC (HSt.out _ _ (Below.refl _ _)) rfl
  · intro v w1 hC hd K hK
    obtain ⟨hv, -⟩ := hd
    have hv : v 9 = _ := hv
    obtain ⟨c0, c1, c2, -⟩ := HC.out w1 hC
    rw [← hfr] at hK ⊢
    simp only [hv] at hK ⊢
    go_simp
    exact hK _ _ hC (HSt.out _ _ (Below.refl _ _)) rfl
  · intro v w1 hC hd K hK
    obtain ⟨⟨g0, hv0, ho0⟩, hv2, -⟩ := hd
    have hv2 : v 10 = _ := hv2
    refine wp_append_copy (c := icCells) (sz := 1) (fun _ => rfl) ic_one 3 96 _ 8 Tryz.underlying96 Tryz.intInfo rfl (by decide) rfl _ _ rfl W.heap.size hC.size (some ⟨g0, 0, none⟩) _ b.ended (by rw [← hfr]; exact hv0) (by rw [← hfr]; exact hv2) ho0 (HBk.out w1 hC).e (by unfold maxLen; omega) (by omega) (fun v' w' h1 h2 => ?_)
    exact hK _ _ (hC.trans (h2.mono hC.size)) (HSt.out _ _ h2) h1
  · intro v w1 hC hd K hK
    obtain ⟨h1, h2, h3, -⟩ := hd
    have h1 : w1.ownsRow _ _ _ (v 3) _ _ := h1
    have h2 : w1.ownsRow _ _ _ (v 7) _ _ := h2
    have h3 : w1.ownsRow _ _ _ (v 11) _ _ := h3
    obtain ⟨b1, q1, e1, -, -⟩ := own_shape h1
    obtain ⟨b2, q2, e2, -, -⟩ := own_shape h2
    obtain ⟨b3, q3, e3, -, -⟩ := own_shape h3
    rw [e1] at h1
    rw [e2] at h2
    rw [e3] at h3
    have H := Lib.hid (And.intro h1 (And.intro h2 h3))
    clear h1 h2 h3
    rw [← hfr] at hK ⊢
    simp only [e1, e2, e3] at hK ⊢
    go_simp
    exact hK _ _ hC (HSt.out _ _ (Below.refl _ _)) ⟨_, _, _, rfl, H.out⟩
  · intro v w1 hC hd K hK
    rw [← hfr] at hK ⊢
    go_simp
    exact hK _ _ (hC.alloc hC.size _) (HSt.out _ _ ((Below.refl _ _).alloc (Nat.le_refl _) _)) ⟨_, _, rfl, hC.size, heap_alloc_new _ _, rfl⟩
  · intro v w1 hC hall
    obtain ⟨⟨-, v1, v2, v3, hv12, o1, o2, o3⟩, g, cs, hv13, hg, hrow, hcs⟩ := hall
    have hw12 : v 12 = _ := hv12
    have hw13 : v 13 = _ := hv13
    have hst : BkSt W (w1.setRow g #[v1, v2, v3]) g v1 v2 v3 b.accs X b.ended := ⟨setRow_heap w1 g cs _ _ _ hrow, hg, own_setRow1 o1 (own_other o1 hrow (by decide)) _, own_setRow1 o2 (own_other o2 hrow (by decide)) _, own_setRow1 o3 (own_other o3 hrow (by decide)) _, below_setRow1 hC hg _⟩
    obtain ⟨b1, q1, rfl, -, -⟩ := own_shape o1
    obtain ⟨b2, q2, rfl, -, -⟩ := own_shape o2
    obtain ⟨b3, q3, rfl, -, -⟩ := own_shape o3
    refine wp_store_row _ _ _ rfl g #[.slice b1 b.accs.length q1, .slice b2 X.length q2, .slice b3 b.ended.length q3] (by rw [← hfr]; exact hv13) (by rw [← hfr]; exact hv12) 142 cs hrow (by kernel_rfl) hcs (by simp [Value.oneCell']) ?_
    have Hst := Lib.hid hst
    clear hst o1 o2 o3 hrow hC
    obtain ⟨V, hV⟩ : ∃ V, V = w1.setRow g #[.slice b1 b.accs.length q1, .slice b2 X.length q2, .slice b3 b.ended.length q3] := ⟨_, rfl⟩
    rw [← hV] at Hst ⊢
    clear hV
    rw [← hfr]
    simp only [hw12, hw13]
    generalize v 0 = y0, v 1 = y1, v 2 = y2, v 3 = y3, v 4 = y4, v 5 = y5, v 6 = y6, v 7 = y7, v 8 = y8, v 9 = y9, v 10 = y10, v 11 = y11
    clear hv12 hv13 hw12 hw13 hfr hcs v HSt
    obtain ⟨c0, c1, c2, d0, d1, d2, d3, d4, d5, d6⟩ := HC.out V Hst.out.b
    have p0 := cell_of_row V _ 0 _ _ _ Hst.out.row
    have p1 := cell_of_row V _ 1 _ _ _ Hst.out.row
    have p2 := cell_of_row V _ 2 _ _ _ Hst.out.row
    have hkd := Hkd.out
    clear Hkd
    subst hkd
    have HAp := Lib.hid (show applyB b ⟨tm, 2, ac, sb, nu, nm, vl⟩ = { b with accs := b.accs.modify (accIx b ac).toNat fun a => { a with clo := true } } from rfl)
    obtain ⟨k, hk, hix, -⟩ := Hok.out.acc rfl (show (2 : Int) ≠ 1 by decide)
    have hix : accIx b ac = k := hix
    have HMd := Lib.hid (modify_set (fun a : Ac => { a with clo := true }) b.accs k hk)
    have Hix := Lib.hid hix
    have hkl : (k : Int) < (b.accs.length : Int) := by omega
    have hk0 : (0 : Int) ≤ (k : Int) := Int.natCast_nonneg _
    obtain ⟨g1, rfl⟩ : ∃ g1, b1 = some ⟨g1, 0, none⟩ := by
      rcases Hst.out.o1.2 with ⟨h1, h2⟩ | ⟨g1, cap', cur, hv, -⟩
      · omega
      · simp only [Value.slice.injEq] at hv
        exact ⟨g1, hv.1⟩
    have HCl := Lib.hid (show ∀ Y, Below V.heap.size V Y → ∃ cl, Y.cell? ⟨g1, k * 6 + 4, none⟩ = some (.bool cl) from fun Y hb => by
      have h1 := (ownsRow_below Hst.out.o1 hb).cellAt (k * 6 + 4) (by omega)
      rw [flat_get acCells 6 (fun _ => rfl) b.accs k 4 hk (by decide)] at h1
      exact ⟨_, h1⟩)
    have HFz := Lib.hid (show ∀ Y, Below V.heap.size V Y → Y.frozen? ⟨g1, k * 6 + 4, none⟩ = false from fun Y hb => (ownsRow_below Hst.out.o1 hb).frozenAt _)
    clear hix c0 c1 c2 d0 d1 d2 d3 d4 d6 d5 p0 p1 p2
    obtain ⟨-, -, -, -, d1, -⟩ := HC.out V Hst.out.b
    go_upto_region 10 with (fail)
    refine wp_region_free2 (fun w' => Below V.heap.size V w') (fun i v _ => v = (match i with
      | 0 => .pointer (some ⟨g, 0, none⟩)
      | 1 => .slice (some ⟨g1, 0, none⟩) b.accs.length q1
      | 2 => .agg #[.slice aa b.accs.length an, .slice sa X.length sn, .slice ea b.ended.length en]
      | 3 => .pointer (some ⟨w.heap.size + 1, 2, none⟩)
      | 4 => .int .i64 ac
      | 5 => .int .i64 k
      | 6 => .pointer (some ⟨g1, k * 6, none⟩)
      | 7 => .pointer (some ⟨g1, k * 6 + 4, none⟩)
      | _ => undef : Value)) (by kernel_rfl) (by decide) (by kernel_rfl) (Below.refl _ _).drew ?_
    generalize hfr : (fun v : Nat → Value => _) = fr
    simp only [List.map_cons, List.map_nil, putsL, List.setIfInBounds_toArray, List.set_cons_succ, List.set_cons_zero, Nat.zero_add, Nat.reduceAdd] at hfr
    simp only [FreeOps]
    refine ⟨?_, ?_, ?_, ?_, ?_, ?_, ?_, ?_, ?_⟩
    · intro v w2 hC hd K hK
      rw [← hfr] at hK ⊢
      go_simp
      exact hK _ _ hC (fun _ _ h => h) rfl
    · intro v w2 hC hd K hK
      obtain ⟨e0, -⟩ := hd
      have e0 : v 0 = _ := e0
      have p0 := cell_of_row w2 _ 0 _ _ _ (Hst.out.below hC).row
      rw [← hfr] at hK ⊢
      simp only [e0] at hK ⊢
      go_simp
      exact hK _ _ hC (fun _ _ h => h) rfl
    · intro v w2 hC hd K hK
      obtain ⟨c0, c1, c2, d0, d1, d2, d3, d4, d5, d6⟩ := HC.out w2 (Hst.out.b.trans (hC.mono Hst.out.b.size))
      rw [← hfr] at hK ⊢
      go_simp
      exact hK _ _ hC (fun _ _ h => h) rfl
    · intro v w2 hC hd K hK
      rw [← hfr] at hK ⊢
      go_simp
      exact hK _ _ hC (fun _ _ h => h) rfl
    · intro v w2 hC hd K hK
      obtain ⟨e3, -⟩ := hd
      have e3 : v 3 = _ := e3
      obtain ⟨c0, c1, c2, d0, d1, d2, d3, d4, d5, d6⟩ := HC.out w2 (Hst.out.b.trans (hC.mono Hst.out.b.size))
      rw [← hfr] at hK ⊢
      simp only [e3] at hK ⊢
      go_simp
      exact hK _ _ hC (fun _ _ h => h) rfl
    · intro v w2 hC hd K hK
      obtain ⟨e2, e4, -⟩ := hd
      have e2 : v 2 = _ := e2
      have e4 : v 4 = _ := e4
      have HA := Lib.hid (account_calls _ _ _ X b ac w2 (HBk.out w2 (Hst.out.b.trans (hC.mono Hst.out.b.size))))
      rw [← hfr] at hK ⊢
      simp only [e2, e4] at hK ⊢
      go_simp
      refine HA.out.mono ?_
      rintro e w3 ⟨rfl, hb3⟩
      exact hK _ _ (hC.trans (hb3.mono hC.size)) (fun _ _ h => h) (by rw [Hix.out])
    · intro v w2 hC hd K hK
      obtain ⟨e1, e5, -⟩ := hd
      have e1 : v 1 = _ := e1
      have e5 : v 5 = _ := e5
      rw [← hfr] at hK ⊢
      simp only [e1, e5] at hK ⊢
      go_simp
      exact hK _ _ hC (fun _ _ h => h) rfl
    · intro v w2 hC hd K hK
      obtain ⟨e6, -⟩ := hd
      have e6 : v 6 = _ := e6
      rw [← hfr] at hK ⊢
      simp only [e6] at hK ⊢
      go_simp
      exact hK _ _ hC (fun _ _ h => h) rfl
    · intro v w2 hC hall
      obtain ⟨-, f7⟩ := hall
      have e7 : v 7 = _ := f7
      obtain ⟨cl, hcl⟩ := HCl.out w2 hC
      have hfz := HFz.out w2 hC
      rw [← hfr]
      simp only [e7]
      go_simp
      have hst2 := Hst.out.below hC
      obtain ⟨so, sg⟩ := hst2.o1.stored (k * 6 + 4) (.bool true)
      rw [flat_set1 (c := acCells) (sz := 6) (fun _ => rfl) b.accs k 4 { b.accs[k] with clo := true } (.bool true) hk (by decide) rfl] at so
      have hst3 := hst2.turn1 (A' := b.accs.set k { b.accs[k] with clo := true }) sg (by rw [List.length_set]; exact so)
      obtain ⟨w6, hw6⟩ : ∃ w6, w6 = w2.setCell ⟨g1, k * 6 + 4, none⟩ (.bool true) := ⟨_, rfl⟩
      rw [← hw6] at hst3 ⊢
      have Hst6 := Lib.hid hst3
      generalize v 0 = y0, v 1 = y1, v 2 = y2, v 3 = y3, v 4 = y4, v 5 = y5, v 6 = y6
      clear hst3 hst2 so sg hw6 hcl hfz e7 f7 hfr v hC HCl HFz
      obtain ⟨u0, u1, u2⟩ : w6.cell? ⟨g, 0, none⟩ = _ ∧ w6.cell? ⟨g, 1, none⟩ = _ ∧ w6.cell? ⟨g, 2, none⟩ = _ := ⟨cell_of_row w6 _ 0 _ _ _ Hst6.out.row, cell_of_row w6 _ 1 _ _ _ Hst6.out.row, cell_of_row w6 _ 2 _ _ _ Hst6.out.row⟩
      go_upto_region 16 with (fail)
      have t0 := cell_setRow_same w6 (w.heap.size + 1 + 1) 0 _ #[.slice (some ⟨g1, 0, none⟩) b.accs.length q1, .slice b2 X.length q2, .slice b3 b.ended.length q3] _ _ (HR2.out w6 Hst6.out.b)
      have t1 := cell_setRow_same w6 (w.heap.size + 1 + 1) 1 _ #[.slice (some ⟨g1, 0, none⟩) b.accs.length q1, .slice b2 X.length q2, .slice b3 b.ended.length q3] _ _ (HR2.out w6 Hst6.out.b)
      have t2 := cell_setRow_same w6 (w.heap.size + 1 + 1) 2 _ #[.slice (some ⟨g1, 0, none⟩) b.accs.length q1, .slice b2 X.length q2, .slice b3 b.ended.length q3] _ _ (HR2.out w6 Hst6.out.b)
      repeat (first | refine wpList_store_row rfl _ _ _ rfl (w.heap.size + 1 + 1) #[.slice (some ⟨g1, 0, none⟩) b.accs.length q1, .slice b2 X.length q2, .slice b3 b.ended.length q3] rfl rfl 142 _ (HR2.out w6 Hst6.out.b) (by kernel_rfl) rfl (by simp [Value.oneCell']) ?_ | go_step)
      refine bodyPost_ret (v := .agg #[.slice (some ⟨g1, 0, none⟩) b.accs.length q1, .slice b2 X.length q2, .slice b3 b.ended.length q3]) (by simp [results, Tryz.results72, go_sem, t0, t1, t2]) rfl ?_
      exact Hst6.out.finish (fun _ hx => PaIn.old hx) Hw0.out (show w.heap.size ≤ w.heap.size + 1 + 1 by omega) Hz.out _ (by rw [HAp.out, Hix.out]; exact HMd.out.symm) (by rw [HAp.out]; exact HXs.out) (by rw [HAp.out]) (fun x hx => (Hold.out x hx).below (below_setRow1 (Hw0.out.trans (Hst6.out.b.mono Hw0.out.size)) (by omega) _))
end Go.Proofs.YtngippiilgdnoaaGreat

namespace Go.Proofs.YtngippiilgdnoaaGreat
open Go.RowKit

/-- The laws of the values of Apply's statement about a subscription. -/
def ap4Phi (V : World) (g g2 k : Nat) (q2 n : Nat) (x : SbX) (ev : Ev) : Nat → Value → World → Prop
  | 9, v, w' => ∃ x' : SbX, v = sbVal x' ∧ x'.s = changedS x.s ev ∧ SbRd w' x' ∧ KeptN V.heap.size x.na x'.na x.nn x'.nn x.nc x'.nc x.s.nus x'.s.nus ∧ KeptN V.heap.size x.pa x'.pa x.pn x'.pn x.pc x'.pc x.s.prs x'.s.prs
  | 0, v, _ => v = .pointer (some ⟨g, 1, none⟩)
  | 1, v, _ => v = .slice (some ⟨g2, 0, none⟩) n q2
  | 2, v, _ => v = .int .i64 k
  | 3, v, _ => v = .pointer (some ⟨g, 1, none⟩)
  | 4, v, _ => v = .slice (some ⟨g2, 0, none⟩) n q2
  | 5, v, _ => v = .int .i64 k
  | 6, v, _ => v = .pointer (some ⟨g2, k * 8, none⟩)
  | 7, v, _ => v = sbVal x
  | 8, v, _ => v = evVal ev
  | 10, v, _ => v = .pointer (some ⟨g2, k * 8, none⟩)
  | _, _, _ => True
theorem ap4Phi_stays {V : World} {g g2 k q2 n : Nat} {x : SbX} {ev : Ev} {w1 w2 : World} (hb : Below w1.heap.size w1 w2) : ∀ j y, ap4Phi V g g2 k q2 n x ev j y w1 → ap4Phi V g g2 k q2 n x ev j y w2
  | 9, _, ⟨x', h1, h2, h3, h4⟩ => ⟨x', h1, h2, h3.below hb, h4⟩
  | 0, _, h => h
  | 1, _, h => h
  | 2, _, h => h
  | 3, _, h => h
  | 4, _, h => h
  | 5, _, h => h
  | 6, _, h => h
  | 7, _, h => h
  | 8, _, h => h
  | 10, _, h => h
  | _ + 11, _, _ => trivial
theorem KeptN.mono {B B' : Nat} {na na' : Option Addr} {nn nn' nc nc' : Nat} {l l' : List ByteArray} (h : KeptN B na na' nn nn' nc nc' l l') (hb : B' ≤ B) : KeptN B' na na' nn nn' nc nc' l l' := h.imp id (fun h => h.mono hb)
/-- A turned subscription still reads where old memory and what its event made are as they were. -/
theorem sb_final {w w1 Y : World} {B : Nat} {x x' : SbX} (hx : SbRd w x) (hy : Below w.heap.size w Y) (h : SbRd w1 x') (k1 : KeptN B x.na x'.na x.nn x'.nn x.nc x'.nc x.s.nus x'.s.nus) (k2 : KeptN B x.pa x'.pa x.pn x'.pn x.pc x'.pc x.s.prs x'.s.prs) (hk : ∀ k, B ≤ k → k < w1.heap.size → Y.heap[k]? = w1.heap[k]?) (hs : w1.heap.size ≤ Y.heap.size) : SbRd Y x' := by
  obtain ⟨h1, h2, h3, h4, h5⟩ := h
  obtain ⟨x1, x2, -⟩ := hx
  refine ⟨?_, ?_, h3, h4, h5⟩
  · rcases k1 with ⟨e1, e2, e3, e4⟩ | hf
    · rw [e1, e2, e3, e4]; exact x1.below hy
    · exact strs_hold h1 hf hk hs
  · rcases k2 with ⟨e1, e2, e3, e4⟩ | hf
    · rw [e1, e2, e3, e4]; exact x2.below hy
    · exact strs_hold h2 hf hk hs

set_option maxRecDepth 100000 in
set_option maxHeartbeats 12800000 in
theorem apply_sub (va vs ve : Value) (X : List SbX) (b : Bk) (ev : Ev) (last : Int) (w : World) (h : BkAt w va vs ve X b) (hok : OkEv b last ev) (hkd : 4 ≤ ev.kd ∧ ev.kd ≤ 13) (hsm : Small b 1000) (hn : ev.nu.size ≤ maxLen) (hm : ev.nm.size ≤ maxLen) :
    Calls Tryz.prog 72 #[.agg #[va, vs, ve], evVal ev] w (ApplyTo X (applyB b ev) w) := by
  have HXl := Lib.hid h.len
  have hXb : X.length ≤ 1000 := by rw [h.len]; exact hsm.s
  have hsa := hsm.a
  have hss := hsm.s
  have hse := hsm.e
  obtain ⟨tm, kd, ac, sb, nu, nm, vl⟩ := ev
  have hh := h
  obtain ⟨aa, an, rfl, hla, hma⟩ := rec_shape h.a
  obtain ⟨sa, sn, rfl, hls, hms⟩ := rec_shape h.s
  obtain ⟨ea, en, rfl, -, -⟩ := rec_shape h.e
  obtain ⟨W, hW, r0, r1, r2, hw0, hz⟩ := three_rows w (Obj.cells #[.slice aa b.accs.length an, .slice sa X.length sn, .slice ea b.ended.length en] 142) (Obj.cells #[.int .i64 tm, .int .i64 kd, .int .i64 ac, .int .i64 sb, .string nu, .string nm, .int .i64 vl] 55) (Obj.cells #[.slice none 0 0, .slice none 0 0, .slice none 0 0] 142)
  have HC := Lib.hid (show ∀ Y, Below W.heap.size W Y → Y.cell? ⟨w.heap.size, 0, none⟩ = some (.slice aa b.accs.length an) ∧ Y.cell? ⟨w.heap.size, 1, none⟩ = some (.slice sa X.length sn) ∧ Y.cell? ⟨w.heap.size, 2, none⟩ = some (.slice ea b.ended.length en) ∧
      Y.cell? ⟨w.heap.size + 1, 0, none⟩ = some (.int .i64 tm) ∧ Y.cell? ⟨w.heap.size + 1, 1, none⟩ = some (.int .i64 kd) ∧ Y.cell? ⟨w.heap.size + 1, 2, none⟩ = some (.int .i64 ac) ∧ Y.cell? ⟨w.heap.size + 1, 3, none⟩ = some (.int .i64 sb) ∧ Y.cell? ⟨w.heap.size + 1, 4, none⟩ = some (.string nu) ∧ Y.cell? ⟨w.heap.size + 1, 5, none⟩ = some (.string nm) ∧ Y.cell? ⟨w.heap.size + 1, 6, none⟩ = some (.int .i64 vl) from fun Y hb => by
    have q := (hb.block _ (by omega)).trans r0
    have p := (hb.block _ (by omega)).trans r1
    exact ⟨cell_of_row Y _ 0 _ _ _ q, cell_of_row Y _ 1 _ _ _ q, cell_of_row Y _ 2 _ _ _ q, cell_of_row Y _ 0 _ _ _ p, cell_of_row Y _ 1 _ _ _ p, cell_of_row Y _ 2 _ _ _ p, cell_of_row Y _ 3 _ _ _ p, cell_of_row Y _ 4 _ _ _ p, cell_of_row Y _ 5 _ _ _ p, cell_of_row Y _ 6 _ _ _ p⟩)
  have HBk := Lib.hid (show ∀ Y, Below W.heap.size W Y → BkAt Y (.slice aa b.accs.length an) (.slice sa X.length sn) (.slice ea b.ended.length en) X b from fun Y hb => hh.below (hw0.trans (hb.mono hw0.size)))
  have HR2 := Lib.hid (show ∀ Y, Below W.heap.size W Y → Y.heap[w.heap.size + 1 + 1]? = some (Obj.cells #[.slice none 0 0, .slice none 0 0, .slice none 0 0] 142) from fun Y hb => (hb.block _ hz).trans r2)
  have HSt := Lib.hid (fun (w1 w2 : World) (hb : Below w1.heap.size w1 w2) => @apPhi_stays w W (.slice aa b.accs.length an) (.slice sa X.length sn) (.slice ea b.ended.length en) b.accs X b.ended w1 w2 hb)
  unfold evVal
  dsimp only
  dsimp only at hkd
  have Hkd := Lib.hid hkd
  clear hkd
  have HW := Lib.hid hW
  have Hw0 := Lib.hid hw0
  have Hz := Lib.hid hz
  have Hold := Lib.hid h.r
  have HXs := Lib.hid h.x
  have Hok := Lib.hid hok
  have Hsm := Lib.hid hsm
  have Hsz := Lib.hid (And.intro hn hm)
  clear hW r0 r1 r2 hw0 h hh hok hsm hn hm
  go_enter Tryz.func72, Tryz.ntmps72
  go_upto_region 1 with (fail)
  rw [← HW.out]
  refine wp_region_free2 (fun w' => Below W.heap.size W w') (apPhi w W (.slice aa b.accs.length an) (.slice sa X.length sn) (.slice ea b.ended.length en) b.accs X b.ended) (by kernel_rfl) (by decide) (by kernel_rfl) (Below.refl _ _).drew ?_
  generalize hfr : (fun v : Nat → Value => _) = fr
  simp only [List.map_cons, List.map_nil, putsL, List.setIfInBounds_toArray, List.set_cons_succ, List.set_cons_zero, Nat.zero_add, Nat.reduceAdd] at hfr
  simp only [FreeOps]
  refine ⟨?_, ?_, ?_, ?_, ?_, ?_, ?_, ?_, ?_, ?_, ?_, ?_, ?_, ?_, ?_⟩
  · intro v w1 hC hd K hK
    rw [← hfr] at hK ⊢
    go_simp
    exact hK _ _ (hC.alloc hC.size _) (HSt.out _ _ ((Below.refl _ _).alloc (Nat.le_refl _) _)) ⟨_, rfl, own_down (own_empty w1 _) hC.size⟩
  · intro v w1 hC hd K hK
    rw [← hfr] at hK ⊢
    go_simp
    exact hK _ _ hC (HSt.out _ _ (Below.refl _ _)) rfl
  · intro v w1 hC hd K hK
    obtain ⟨hv, -⟩ := hd
    have hv : v 1 = _ := hv
    obtain ⟨c0, c1, c2, -⟩ := HC.out w1 hC
    rw [← hfr] at hK ⊢
    simp only [hv] at hK ⊢
    go_simp
    exact hK _ _ hC (HSt.out _ _ (Below.refl _ _)) rfl
  · intro v w1 hC hd K hK
    obtain ⟨⟨g0, hv0, ho0⟩, hv2, -⟩ := hd
    have hv2 : v 2 = _ := hv2
    refine wp_append_copy (c := acCells) (sz := 6) (fun _ => rfl) ac_one 178 139 _ 56 Tryz.underlying139 Tryz.accInfo rfl (by decide) rfl _ _ rfl W.heap.size hC.size (some ⟨g0, 0, none⟩) _ b.accs (by rw [← hfr]; exact hv0) (by rw [← hfr]; exact hv2) ho0 (HBk.out w1 hC).a (by unfold maxLen; omega) (by omega) (fun v' w' h1 h2 => ?_)
    exact hK _ _ (hC.trans (h2.mono hC.size)) (HSt.out _ _ h2) h1
  · intro v w1 hC hd K hK
    rw [← hfr] at hK ⊢
    go_simp
    exact hK _ _ (hC.alloc hC.size _) (HSt.out _ _ ((Below.refl _ _).alloc (Nat.le_refl _) _)) ⟨_, rfl, own_down (own_empty w1 _) hC.size⟩
  · intro v w1 hC hd K hK
    rw [← hfr] at hK ⊢
    go_simp
    exact hK _ _ hC (HSt.out _ _ (Below.refl _ _)) rfl
  · intro v w1 hC hd K hK
    obtain ⟨hv, -⟩ := hd
    have hv : v 5 = _ := hv
    obtain ⟨c0, c1, c2, -⟩ := HC.out w1 hC
    rw [← hfr] at hK ⊢
    simp only [hv] at hK ⊢
    go_simp
    exact hK _ _ hC (HSt.out _ _ (Below.refl _ _)) rfl
  · intro v w1 hC hd K hK
    obtain ⟨⟨g0, hv0, ho0⟩, hv2, -⟩ := hd
    have hv2 : v 6 = _ := hv2
    refine wp_append_copy (c := sbCells) (sz := 8) (fun _ => rfl) sb_one 181 140 _ 96 Tryz.underlying140 Tryz.subInfo rfl (by decide) rfl _ _ rfl W.heap.size hC.size (some ⟨g0, 0, none⟩) _ X (by rw [← hfr]; exact hv0) (by rw [← hfr]; exact hv2) ho0 (HBk.out w1 hC).s (by unfold maxLen; omega) (by omega) (fun v' w' h1 h2 => ?_)
    exact hK _ _ (hC.trans (h2.mono hC.size)) (HSt.out _ _ h2) h1
  · intro v w1 hC hd K hK
    rw [← hfr] at hK ⊢
    go_simp
    exact hK _ _ (hC.alloc hC.size _) (HSt.out _ _ ((Below.refl _ _).alloc (Nat.le_refl _) _)) ⟨_, rfl, own_down (own_empty w1 _) hC.size⟩
  · intro v w1 hC hd K hK
    rw [← hfr] at hK ⊢
    go_simp
    exact hK _ _ hC (HSt.out _ _ (Below.refl _ _)) rfl
  · intro v w1 hC hd K hK
    obtain ⟨hv, -⟩ := hd
    have hv : v 9 = _ := hv
    obtain ⟨c0, c1, c2, -⟩ := HC.out w1 hC
    rw [← hfr] at hK ⊢
    simp only [hv] at hK ⊢
    go_simp
    exact hK _ _ hC (HSt.out _ _ (Below.refl _ _)) rfl
  · intro v w1 hC hd K hK
    obtain ⟨⟨g0, hv0, ho0⟩, hv2, -⟩ := hd
    have hv2 : v 10 = _ := hv2
    refine wp_append_copy (c := icCells) (sz := 1) (fun _ => rfl) ic_one 3 96 _ 8 Tryz.underlying96 Tryz.intInfo rfl (by decide) rfl _ _ rfl W.heap.size hC.size (some ⟨g0, 0, none⟩) _ b.ended (by rw [← hfr]; exact hv0) (by rw [← hfr]; exact hv2) ho0 (HBk.out w1 hC).e (by unfold maxLen; omega) (by omega) (fun v' w' h1 h2 => ?_)
    exact hK _ _ (hC.trans (h2.mono hC.size)) (HSt.out _ _ h2) h1
  · intro v w1 hC hd K hK
    obtain ⟨h1, h2, h3, -⟩ := hd
    have h1 : w1.ownsRow _ _ _ (v 3) _ _ := h1
    have h2 : w1.ownsRow _ _ _ (v 7) _ _ := h2
    have h3 : w1.ownsRow _ _ _ (v 11) _ _ := h3
    obtain ⟨b1, q1, e1, -, -⟩ := own_shape h1
    obtain ⟨b2, q2, e2, -, -⟩ := own_shape h2
    obtain ⟨b3, q3, e3, -, -⟩ := own_shape h3
    rw [e1] at h1
    rw [e2] at h2
    rw [e3] at h3
    have H := Lib.hid (And.intro h1 (And.intro h2 h3))
    clear h1 h2 h3
    rw [← hfr] at hK ⊢
    simp only [e1, e2, e3] at hK ⊢
    go_simp
    exact hK _ _ hC (HSt.out _ _ (Below.refl _ _)) ⟨_, _, _, rfl, H.out⟩
  · intro v w1 hC hd K hK
    rw [← hfr] at hK ⊢
    go_simp
    exact hK _ _ (hC.alloc hC.size _) (HSt.out _ _ ((Below.refl _ _).alloc (Nat.le_refl _) _)) ⟨_, _, rfl, hC.size, heap_alloc_new _ _, rfl⟩
  · intro v w1 hC hall
    obtain ⟨⟨-, v1, v2, v3, hv12, o1, o2, o3⟩, g, cs, hv13, hg, hrow, hcs⟩ := hall
    have hw12 : v 12 = _ := hv12
    have hw13 : v 13 = _ := hv13
    have hst : BkSt W (w1.setRow g #[v1, v2, v3]) g v1 v2 v3 b.accs X b.ended := ⟨setRow_heap w1 g cs _ _ _ hrow, hg, own_setRow1 o1 (own_other o1 hrow (by decide)) _, own_setRow1 o2 (own_other o2 hrow (by decide)) _, own_setRow1 o3 (own_other o3 hrow (by decide)) _, below_setRow1 hC hg _⟩
    obtain ⟨b1, q1, rfl, -, -⟩ := own_shape o1
    obtain ⟨b2, q2, rfl, -, -⟩ := own_shape o2
    obtain ⟨b3, q3, rfl, -, -⟩ := own_shape o3
    refine wp_store_row _ _ _ rfl g #[.slice b1 b.accs.length q1, .slice b2 X.length q2, .slice b3 b.ended.length q3] (by rw [← hfr]; exact hv13) (by rw [← hfr]; exact hv12) 142 cs hrow (by kernel_rfl) hcs (by simp [Value.oneCell']) ?_
    have Hst := Lib.hid hst
    clear hst o1 o2 o3 hrow hC
    obtain ⟨V, hV⟩ : ∃ V, V = w1.setRow g #[.slice b1 b.accs.length q1, .slice b2 X.length q2, .slice b3 b.ended.length q3] := ⟨_, rfl⟩
    rw [← hV] at Hst ⊢
    clear hV
    rw [← hfr]
    simp only [hw12, hw13]
    generalize v 0 = y0, v 1 = y1, v 2 = y2, v 3 = y3, v 4 = y4, v 5 = y5, v 6 = y6, v 7 = y7, v 8 = y8, v 9 = y9, v 10 = y10, v 11 = y11
    clear hv12 hv13 hw12 hw13 hfr hcs v HSt
    obtain ⟨c0, c1, c2, d0, d1, d2, d3, d4, d5, d6⟩ := HC.out V Hst.out.b
    have p0 := cell_of_row V _ 0 _ _ _ Hst.out.row
    have p1 := cell_of_row V _ 1 _ _ _ Hst.out.row
    have p2 := cell_of_row V _ 2 _ _ _ Hst.out.row
    obtain ⟨hk4, hk13⟩ := Hkd.out
    have e1 : (kd == 1) = false := beq_eq_false_iff_ne.2 (by omega)
    have e2 : (kd == 2) = false := beq_eq_false_iff_ne.2 (by omega)
    have e3 : (kd == 3) = false := beq_eq_false_iff_ne.2 (by omega)
    have e14 : (kd == 14) = false := beq_eq_false_iff_ne.2 (by omega)
    have e15 : (kd == 15) = false := beq_eq_false_iff_ne.2 (by omega)
    have HAp := Lib.hid (show applyB b ⟨tm, kd, ac, sb, nu, nm, vl⟩ = { b with subs := b.subs.modify (subIx b sb).toNat fun s => changedS s ⟨tm, kd, ac, sb, nu, nm, vl⟩, ended := if kd = 4 then b.ended ++ [sb] else b.ended } by unfold applyB; dsimp only; rw [if_neg (by omega), if_neg (by omega), if_neg (by omega), if_neg (by omega)])
    obtain ⟨k, hkb, hix, -⟩ := ixOf_yes (Hok.out.sub (show usesA kd = false by unfold usesA; simp; omega)).1
    have hix : subIx b sb = k := hix
    have Hix := Lib.hid hix
    have hk : k < X.length := by rw [HXl.out]; exact hkb
    have hkl : (k : Int) < (X.length : Int) := by omega
    have hk0 : (0 : Int) ≤ (k : Int) := Int.natCast_nonneg _
    have HMd := Lib.hid (modify_set (fun s => changedS s ⟨tm, kd, ac, sb, nu, nm, vl⟩) b.subs k hkb)
    have HXk := Lib.hid (show (X[k]).s = b.subs[k] by
      have h1 : (X.map (·.s))[k]? = b.subs[k]? := by rw [HXs.out]
      rw [List.getElem?_map, List.getElem?_eq_getElem hk, List.getElem?_eq_getElem hkb] at h1
      simpa using h1)
    have HLn := Lib.hid (And.intro (Hsm.out.nu _ (List.getElem_mem hkb)) (Hsm.out.pr _ (List.getElem_mem hkb)))
    rw [← HXk.out] at HLn
    have HSb := Lib.hid (sub_calls _ _ _ X b sb V (HBk.out V Hst.out.b))
    have HRx := Lib.hid (Hold.out X[k] (List.getElem_mem hk))
    have HMx := Lib.hid (List.getElem_mem hk : X[k] ∈ X)
    clear hix
    go_upto_region 3 with (fail)
    go_wp2_with fail
    refine HSb.out.mono ?_
    rintro e w1b ⟨rfl, hb1⟩
    rw [Hix.out]
    have Hst1 := Lib.hid (Hst.out.below hb1)
    have Hw1 := Lib.hid (Hst1.out.b)
    clear c0 c1 c2 d0 d1 d2 d3 d4 d5 d6 p0 p1 p2 hb1
    obtain ⟨g2, rfl⟩ : ∃ g2, b2 = some ⟨g2, 0, none⟩ := by
      rcases Hst.out.o2.2 with ⟨h1, h2⟩ | ⟨g2, cap', cur, hv, -⟩
      · omega
      · simp only [Value.slice.injEq] at hv
        exact ⟨g2, hv.1⟩
    have HXc := Lib.hid (show ∀ Y, Below w1b.heap.size w1b Y → ∀ j, j < 8 → Y.cell? ⟨g2, k * 8 + j, none⟩ = (sbCells X[k])[j]? from fun Y hb j hj => by
      have h1 := (ownsRow_below Hst1.out.o2 hb).cellAt (k * 8 + j) (by omega)
      rwa [flat_get sbCells 8 (fun _ => rfl) X k j hk hj] at h1)
    generalize X[k] = x at *
    go_upto_region 4 with (fail)
    refine wp_region_free2 (fun w' => Below w1b.heap.size w1b w') (ap4Phi w1b g g2 k q2 X.length x ⟨tm, kd, ac, sb, nu, nm, vl⟩) (by kernel_rfl) (by decide) (by kernel_rfl) (Below.refl _ _).drew ?_
    generalize hfr : (fun v : Nat → Value => _) = fr
    simp only [List.map_cons, List.map_nil, putsL, List.setIfInBounds_toArray, List.set_cons_succ, List.set_cons_zero, Nat.zero_add, Nat.reduceAdd] at hfr
    simp only [FreeOps]
    refine ⟨?_, ?_, ?_, ?_, ?_, ?_, ?_, ?_, ?_, ?_, ?_, ?_⟩
    · intro v w2 hC hd K hK
      rw [← hfr] at hK ⊢
      go_simp
      exact hK _ _ hC (ap4Phi_stays (Below.refl _ _)) rfl
    · intro v w2 hC hd K hK
      obtain ⟨f0, -⟩ := hd
      have e0 : v 0 = _ := f0
      have p1 := cell_of_row w2 _ 1 _ _ _ (Hst1.out.below hC).row
      rw [← hfr] at hK ⊢
      simp only [e0] at hK ⊢
      go_simp
      exact hK _ _ hC (ap4Phi_stays (Below.refl _ _)) rfl
    · intro v w2 hC hd K hK
      rw [← hfr] at hK ⊢
      go_simp
      exact hK _ _ hC (ap4Phi_stays (Below.refl _ _)) rfl
    · intro v w2 hC hd K hK
      rw [← hfr] at hK ⊢
      go_simp
      exact hK _ _ hC (ap4Phi_stays (Below.refl _ _)) rfl
    · intro v w2 hC hd K hK
      obtain ⟨f3, -⟩ := hd
      have e3 : v 3 = _ := f3
      have p1 := cell_of_row w2 _ 1 _ _ _ (Hst1.out.below hC).row
      rw [← hfr] at hK ⊢
      simp only [e3] at hK ⊢
      go_simp
      exact hK _ _ hC (ap4Phi_stays (Below.refl _ _)) rfl
    · intro v w2 hC hd K hK
      rw [← hfr] at hK ⊢
      go_simp
      exact hK _ _ hC (ap4Phi_stays (Below.refl _ _)) rfl
    · intro v w2 hC hd K hK
      obtain ⟨f4, f5, -⟩ := hd
      have e4 : v 4 = _ := f4
      have e5 : v 5 = _ := f5
      rw [← hfr] at hK ⊢
      simp only [e4, e5] at hK ⊢
      go_simp
      exact hK _ _ hC (ap4Phi_stays (Below.refl _ _)) rfl
    · intro v w2 hC hd K hK
      obtain ⟨f6, -⟩ := hd
      have e6 : v 6 = _ := f6
      have x0 : w2.cell? ⟨g2, k * 8, none⟩ = some (.int .i64 x.s.id) := HXc.out w2 hC 0 (by decide)
      have x1 : w2.cell? ⟨g2, k * 8 + 1, none⟩ = some (.int .i64 x.s.ac) := HXc.out w2 hC 1 (by decide)
      have x2 : w2.cell? ⟨g2, k * 8 + 2, none⟩ = some (.int .i64 x.s.si) := HXc.out w2 hC 2 (by decide)
      have x3 : w2.cell? ⟨g2, k * 8 + 3, none⟩ = some (.string x.s.plan) := HXc.out w2 hC 3 (by decide)
      have x4 : w2.cell? ⟨g2, k * 8 + 4, none⟩ = some (.slice x.na x.nn x.nc) := HXc.out w2 hC 4 (by decide)
      have x5 : w2.cell? ⟨g2, k * 8 + 5, none⟩ = some (.slice x.pa x.pn x.pc) := HXc.out w2 hC 5 (by decide)
      have x6 : w2.cell? ⟨g2, k * 8 + 6, none⟩ = some (.bool x.s.su) := HXc.out w2 hC 6 (by decide)
      have x7 : w2.cell? ⟨g2, k * 8 + 7, none⟩ = some (.bool x.s.fa) := HXc.out w2 hC 7 (by decide)
      rw [← hfr] at hK ⊢
      simp only [e6] at hK ⊢
      go_simp
      exact hK _ _ hC (ap4Phi_stays (Below.refl _ _)) rfl
    · intro v w2 hC hd K hK
      obtain ⟨c0, c1, c2, d0, d1, d2, d3, d4, d5, d6⟩ := HC.out w2 (Hw1.out.trans (hC.mono Hw1.out.size))
      rw [← hfr] at hK ⊢
      go_simp
      exact hK _ _ hC (ap4Phi_stays (Below.refl _ _)) rfl
    · intro v w2 hC hd K hK
      obtain ⟨f7, f8, -⟩ := hd
      have e7 : v 7 = _ := f7
      have e8 : v 8 = _ := f8
      have HA := Lib.hid (changed_calls x ⟨tm, kd, ac, sb, nu, nm, vl⟩ w2 (HRx.out.below (Hw0.out.trans ((Hw1.out.trans (hC.mono Hw1.out.size)).mono Hw0.out.size))) Hsz.out.1 Hsz.out.2 (by have := HLn.out.1; omega) (by have := HLn.out.2; omega))
      rw [← hfr] at hK ⊢
      simp only [e7, e8] at hK ⊢
      go_simp
      refine HA.out.mono ?_
      rintro e w3 ⟨x', rfl, hs', hr', hk1, hk2, hb3⟩
      exact hK _ _ (hC.trans (hb3.mono hC.size)) (ap4Phi_stays hb3) ⟨x', rfl, hs', hr', hk1.mono hC.size, hk2.mono hC.size⟩
    · intro v w2 hC hd K hK
      obtain ⟨f1, f2, -⟩ := hd
      have e1 : v 1 = _ := f1
      have e2 : v 2 = _ := f2
      rw [← hfr] at hK ⊢
      simp only [e1, e2] at hK ⊢
      go_simp
      exact hK _ _ hC (ap4Phi_stays (Below.refl _ _)) rfl
    · intro v w2 hC hall
      obtain ⟨⟨-, x', f9, hs', hr', hk1, hk2⟩, f10⟩ := hall
      have e9 : v 9 = _ := f9
      have e10 : v 10 = _ := f10
      have hst2 := Hst1.out.below hC
      refine wp_store_mid _ _ _ rfl g2 (k * 8) (sbCells x').toArray (by rw [← hfr]; exact e10) (by rw [← hfr]; exact e9) (by simpa [sbCells] using own_there hst2.o2 k hk) (by kernel_rfl) (by simp [sbCells, Value.oneCell']) ?_
      obtain ⟨so, sg⟩ := own_setCells (sbCells x') _ (k * 8) _ hst2.o2
      rw [flat_setR (c := sbCells) (sz := 8) (fun _ => rfl) X k x' hk] at so
      have hst3 := hst2.turn2 (X' := X.set k x') sg (by rw [List.length_set]; exact so)
      have hbk : ∀ q, w1b.heap.size ≤ q → q < w2.heap.size → (w2.setCells g2 (k * 8) (sbCells x')).heap[q]? = w2.heap[q]? := fun q h1 h2 => sg.block q h2 (by
        intro e
        have := (ownsRow_block Hst1.out.o2 q e.symm).2
        omega)
      obtain ⟨w6, hw0⟩ : ∃ w6, w6 = w2.setCells g2 (k * 8) (sbCells x').toArray.toList := ⟨_, rfl⟩
      rw [← hw0]
      have hw6 : w6 = w2.setCells g2 (k * 8) (sbCells x') := hw0
      rw [← hw6] at hst3 hbk sg
      have Hst6 := Lib.hid hst3
      have HBq := Lib.hid hbk
      have Hsz6 := Lib.hid sg.size
      have Hr' := Lib.hid hr'
      have Hkk := Lib.hid (And.intro hk1 hk2)
      have Hs' := Lib.hid hs'
      have HXm := Lib.hid (show (X.set k x').map (·.s) = b.subs.modify k (fun s => changedS s ⟨tm, kd, ac, sb, nu, nm, vl⟩) by
        rw [List.map_set, HXs.out, HMd.out, Hs'.out, HXk.out])
      have HFin := Lib.hid (show ∀ Y, Below w.heap.size w Y → (∀ q, w1b.heap.size ≤ q → q < w2.heap.size → Y.heap[q]? = w2.heap[q]?) → w2.heap.size ≤ Y.heap.size → ∀ y ∈ X.set k x', SbRd Y y from fun Y hY hq hz y hy => by
        rcases List.mem_or_eq_of_mem_set hy with hy | rfl
        · exact (Hold.out y hy).below hY
        · exact sb_final HRx.out hY Hr'.out Hkk.out.1 Hkk.out.2 hq hz)
      have HPa := Lib.hid (show ∀ y ∈ X.set k x', PaIn w.heap.size X y from fun y hy => by
        rcases List.mem_or_eq_of_mem_set hy with hy | rfl
        · exact PaIn.old hy
        · rcases Hkk.out.2 with ⟨h1, -⟩ | h1
          · exact Or.inl ⟨x, HMx.out, h1⟩
          · exact Or.inr (h1.mono Hw1.out.size |>.mono Hw0.out.size))
      rw [← hfr]
      simp only [e9, e10]
      generalize v 0 = y0, v 1 = y1, v 2 = y2, v 3 = y3, v 4 = y4, v 5 = y5, v 6 = y6, v 7 = y7, v 8 = y8
      clear hst3 hst2 so sg hw6 hw0 hbk hr' hk1 hk2 hs' e9 e10 f9 f10 hfr v HXc
      obtain ⟨c0, c1, c2, d0, d1, d2, d3, d4, d5, d6⟩ := HC.out w6 Hst6.out.b
      have p0 := cell_of_row w6 _ 0 _ _ _ Hst6.out.row
      have p1 := cell_of_row w6 _ 1 _ _ _ Hst6.out.row
      have p2 := cell_of_row w6 _ 2 _ _ _ Hst6.out.row
      have hXs6 : (X.set k x').length = X.length := List.length_set
      have hst6s : BkSt W w6 g (.slice b1 b.accs.length q1) (.slice (some ⟨g2, 0, none⟩) X.length q2) (.slice b3 b.ended.length q3) b.accs (X.set k x') b.ended := Hst6.out
      clear hXs6 hst6s
      by_cases hk4 : kd = 4
      · subst hk4
        have HE := Lib.hid (show (applyB b ⟨tm, 4, ac, sb, nu, nm, vl⟩).ended = b.ended ++ [sb] by rw [HAp.out]; rfl)
        have HX1 := Lib.hid (RecAt.one (c := icCells) (sz := 1) w6 sb 3 #[.int .i64 sb] rfl)
        go_upto_region 6 with (fail)
        go_wp2_with (at_builtin; refine append_rec2 (c := icCells) (sz := 1) (fun _ => rfl) ic_one 3 96 _ 8 Tryz.underlying96 Tryz.intInfo rfl (by decide) rfl _ _ rfl W.heap.size ?hb1 _ _ b.ended [sb] rfl rfl (Hst6.out.o3.alloc _) HX1.out ?hl1 ?hl2 ?_)
        case hb1 => have := Hst6.out.b.size; (try simp); omega
        case hl1 => unfold maxLen; (try simp); omega
        case hl2 => (try simp); omega
        intro R hR v5 w7 own5 hgrow5
        obtain ⟨hrow5, hst7⟩ := Hst6.out.push3 _ hgrow5 own5
        have hg3 : ∀ q, (Value.slice b3 b.ended.length q3).ownBlock = some q → q < w1b.heap.size := fun q e => (ownsRow_block Hst1.out.o3 q e).2
        have hkeep : ∀ q, w1b.heap.size ≤ q → q < w2.heap.size → w7.heap[q]? = w2.heap[q]? := fun q h1 h2 => (hgrow5.block q (by have := Hsz6.out; simp; omega) (by intro e; have := hg3 q e.symm; omega)).trans ((((Below.refl w6.heap.size w6).alloc (Nat.le_refl _) _ : Below w6.heap.size w6 (w6.alloc (Obj.cells #[.int .i64 sb] 3))).block q (by have := Hsz6.out; omega)).trans (HBq.out q h1 h2))
        have hz7 : w2.heap.size ≤ w7.heap.size := by have := hgrow5.size; have := Hsz6.out; simp at *; omega
        obtain ⟨a5, c5, rfl, -, -⟩ := own_shape own5
        have o0 := cell_of_row w7 _ 2 _ _ _ hrow5
        have of0 := frozen_of_row w7 _ 2 _ _ hrow5
        have HRe := Lib.hid hR.out
        obtain ⟨w8, hw8⟩ : ∃ w8, w8 = w7.setCell ⟨g, 2, none⟩ (.slice a5 R.length c5) := ⟨_, rfl⟩
        have hgl : g < w1b.heap.size := Hst1.out.lt
        have Hk8 := Lib.hid (show ∀ q, w1b.heap.size ≤ q → q < w2.heap.size → w8.heap[q]? = w2.heap[q]? from fun q h1 h2 => by
          rw [hw8]
          exact (Below.heap_setCell _ _ _ _ (by show q ≠ g; omega)).trans (hkeep q h1 h2))
        have Hz8 := Lib.hid (show w2.heap.size ≤ w8.heap.size by rw [hw8]; simpa [World.setCell] using hz7)
        rw [← hw8] at hst7
        have Hst8 := Lib.hid hst7
        have Hw8 := Lib.hid hw8
        clear own5 hgrow5 hrow5 hst7 hw8 hR hkeep hz7 hg3 hgl c0 c1 c2 d0 d1 d2 d3 d4 d5 d6 p0 p1 p2
        go_upto_region 16 with (fail)
        rw [← Hw8.out]
        clear o0 of0
        obtain ⟨u0, u1, u2⟩ : w8.cell? ⟨g, 0, none⟩ = _ ∧ w8.cell? ⟨g, 1, none⟩ = _ ∧ w8.cell? ⟨g, 2, none⟩ = _ := ⟨cell_of_row w8 _ 0 _ _ _ Hst8.out.row, cell_of_row w8 _ 1 _ _ _ Hst8.out.row, cell_of_row w8 _ 2 _ _ _ Hst8.out.row⟩
        go_upto_region 16 with (fail)
        have t0 := cell_setRow_same w8 (w.heap.size + 1 + 1) 0 _ #[.slice b1 b.accs.length q1, .slice (some ⟨g2, 0, none⟩) X.length q2, .slice a5 R.length c5] _ _ (HR2.out w8 Hst8.out.b)
        have t1 := cell_setRow_same w8 (w.heap.size + 1 + 1) 1 _ #[.slice b1 b.accs.length q1, .slice (some ⟨g2, 0, none⟩) X.length q2, .slice a5 R.length c5] _ _ (HR2.out w8 Hst8.out.b)
        have t2 := cell_setRow_same w8 (w.heap.size + 1 + 1) 2 _ #[.slice b1 b.accs.length q1, .slice (some ⟨g2, 0, none⟩) X.length q2, .slice a5 R.length c5] _ _ (HR2.out w8 Hst8.out.b)
        repeat (first | refine wpList_store_row rfl _ _ _ rfl (w.heap.size + 1 + 1) #[.slice b1 b.accs.length q1, .slice (some ⟨g2, 0, none⟩) X.length q2, .slice a5 R.length c5] rfl rfl 142 _ (HR2.out w8 Hst8.out.b) (by kernel_rfl) rfl (by simp [Value.oneCell']) ?_ | go_step)
        refine bodyPost_ret (v := .agg #[.slice b1 b.accs.length q1, .slice (some ⟨g2, 0, none⟩) X.length q2, .slice a5 R.length c5]) (by simp [results, Tryz.results72, go_sem, t0, t1, t2]) rfl ?_
        exact Hst8.out.finish HPa.out Hw0.out (show w.heap.size ≤ w.heap.size + 1 + 1 by omega) Hz.out _ (by rw [HAp.out]) (by rw [HAp.out, Hix.out]; exact HXm.out) (by rw [HE.out]; exact HRe.out) (HFin.out _ (below_setRow1 (Hw0.out.trans (Hst8.out.b.mono Hw0.out.size)) (by omega) _) (fun q h1 h2 => (setRow_other _ _ _ _ (by have := Hw1.out.size; have := Hz.out; omega)).trans (Hk8.out q h1 h2)) (by rw [setRow_size]; exact Hz8.out))
      · have hk4b : (kd == 4) = false := beq_eq_false_iff_ne.2 hk4
        have HE := Lib.hid (show (applyB b ⟨tm, kd, ac, sb, nu, nm, vl⟩).ended = b.ended by rw [HAp.out]; exact if_neg hk4)
        clear hk4
        obtain ⟨u0, u1, u2⟩ : w6.cell? ⟨g, 0, none⟩ = _ ∧ w6.cell? ⟨g, 1, none⟩ = _ ∧ w6.cell? ⟨g, 2, none⟩ = _ := ⟨cell_of_row w6 _ 0 _ _ _ Hst6.out.row, cell_of_row w6 _ 1 _ _ _ Hst6.out.row, cell_of_row w6 _ 2 _ _ _ Hst6.out.row⟩
        go_upto_region 16 with (fail)
        have t0 := cell_setRow_same w6 (w.heap.size + 1 + 1) 0 _ #[.slice b1 b.accs.length q1, .slice (some ⟨g2, 0, none⟩) X.length q2, .slice b3 b.ended.length q3] _ _ (HR2.out w6 Hst6.out.b)
        have t1 := cell_setRow_same w6 (w.heap.size + 1 + 1) 1 _ #[.slice b1 b.accs.length q1, .slice (some ⟨g2, 0, none⟩) X.length q2, .slice b3 b.ended.length q3] _ _ (HR2.out w6 Hst6.out.b)
        have t2 := cell_setRow_same w6 (w.heap.size + 1 + 1) 2 _ #[.slice b1 b.accs.length q1, .slice (some ⟨g2, 0, none⟩) X.length q2, .slice b3 b.ended.length q3] _ _ (HR2.out w6 Hst6.out.b)
        repeat (first | refine wpList_store_row rfl _ _ _ rfl (w.heap.size + 1 + 1) #[.slice b1 b.accs.length q1, .slice (some ⟨g2, 0, none⟩) X.length q2, .slice b3 b.ended.length q3] rfl rfl 142 _ (HR2.out w6 Hst6.out.b) (by kernel_rfl) rfl (by simp [Value.oneCell']) ?_ | go_step)
        refine bodyPost_ret (v := .agg #[.slice b1 b.accs.length q1, .slice (some ⟨g2, 0, none⟩) X.length q2, .slice b3 b.ended.length q3]) (by simp [results, Tryz.results72, go_sem, t0, t1, t2]) rfl ?_
        exact Hst6.out.finish HPa.out Hw0.out (show w.heap.size ≤ w.heap.size + 1 + 1 by omega) Hz.out _ (by rw [HAp.out]) (by rw [HAp.out, Hix.out]; exact HXm.out) (by rw [HE.out]) (HFin.out _ (below_setRow1 (Hw0.out.trans (Hst6.out.b.mono Hw0.out.size)) (by omega) _) (fun q h1 h2 => (setRow_other _ _ _ _ (by have := Hw1.out.size; have := Hz.out; omega)).trans (HBq.out q h1 h2)) (by rw [setRow_size]; exact Hsz6.out))

theorem apply_calls (va vs ve : Value) (X : List SbX) (b : Bk) (ev : Ev) (last : Int) (w : World) (h : BkAt w va vs ve X b) (hok : OkEv b last ev) (hsm : Small b 1000) (hn : ev.nu.size ≤ maxLen) (hm : ev.nm.size ≤ maxLen) :
    Calls Tryz.prog 72 #[.agg #[va, vs, ve], evVal ev] w (ApplyTo X (applyB b ev) w) := by
  have h1 := hok.k1
  have h2 := hok.k2
  by_cases hk2 : ev.kd = 2
  · exact apply_2 va vs ve X b ev last w h hok hk2 hsm hn hm
  · by_cases hks : 4 ≤ ev.kd ∧ ev.kd ≤ 13
    · exact apply_sub va vs ve X b ev last w h hok hks hsm hn hm
    · exact apply_acc va vs ve X b ev last w h hok (by omega) hsm hn hm
end Go.Proofs.YtngippiilgdnoaaGreat

namespace Go.Proofs.YtngippiilgdnoaaGreat
open Go.RowKit

def isSl : Value → Bool
  | .slice _ _ _ => true
  | _ => false
theorem rec_setRow {α : Type} {c : α → List Value} {sz : Nat} (h0 : ∀ x, ∃ u, (c x)[0]? = some u ∧ isSl u = false) (hsz : 0 < sz) {w : World} {v : Value} {l : List α} (h : RecAt c sz w v l) {g : Nat} {cs : Array Value} {t : TypeId} {fr : Nat × Nat} (hg : w.heap[g]? = some (.cells cs t fr)) (hcs : ∀ (j : Nat) (u : Value), cs[j]? = some u → isSl u = true) (cs' : Array Value) : RecAt c sz (w.setRow g cs') v l := by
  obtain ⟨av, cap, rfl, h1, h2, h3⟩ := h
  refine ⟨av, cap, rfl, h1, h2, fun hne => ?_⟩
  obtain ⟨b, o, rfl, hB, hx⟩ := h3 hne
  have hb : b ≠ g := by
    rintro rfl
    have hl : 0 < l.length := List.length_pos_iff.2 hne
    have c0 := hx 0 hl 0 hsz
    obtain ⟨u, e1, e2⟩ := h0 l[0]
    rw [e1, cell_of_row w _ _ _ _ _ hg] at c0
    have := hcs _ _ c0
    rw [e2] at this
    cases this
  refine ⟨b, o, rfl, by simpa using hB, fun i hi j hj => ?_⟩
  exact (World.cell?_of_block (a := ⟨b, _, none⟩) (setRow_other _ _ _ _ hb)).trans (hx i hi j hj)
theorem strs_setRow {w : World} {v : Value} {l : List ByteArray} (h : StrsAt w v l) {g : Nat} {cs : Array Value} {t : TypeId} {fr : Nat × Nat} (hg : w.heap[g]? = some (.cells cs t fr)) (hcs : ∀ (j : Nat) (u : Value), cs[j]? = some u → isSl u = true) (cs' : Array Value) : StrsAt (w.setRow g cs') v l :=
  strs_of_rec (rec_setRow (fun _ => ⟨_, rfl, rfl⟩) (by decide) (rec_of_strs h) hg hcs cs') (strs_sizes h)
theorem BkAt.setRow {w : World} {va vs ve : Value} {X : List SbX} {b : Bk} (h : BkAt w va vs ve X b) {g : Nat} {cs : Array Value} {t : TypeId} {fr : Nat × Nat} (hg : w.heap[g]? = some (.cells cs t fr)) (hcs : ∀ (j : Nat) (u : Value), cs[j]? = some u → isSl u = true) (cs' : Array Value) : BkAt (w.setRow g cs') va vs ve X b :=
  ⟨rec_setRow (fun _ => ⟨_, rfl, rfl⟩) (by decide) h.a hg hcs cs', rec_setRow (fun _ => ⟨_, rfl, rfl⟩) (by decide) h.s hg hcs cs', h.x,
    fun x hx => ⟨strs_setRow (h.r x hx).1 hg hcs cs', strs_setRow (h.r x hx).2.1 hg hcs cs', (h.r x hx).2.2⟩, rec_setRow (fun _ => ⟨_, rfl, rfl⟩) (by decide) h.e hg hcs cs'⟩
theorem three_sl {a1 a2 a3 : Option Addr} {n1 n2 n3 c1 c2 c3 : Nat} : ∀ (j : Nat) (u : Value), (#[Value.slice a1 n1 c1, .slice a2 n2 c2, .slice a3 n3 c3] : Array Value)[j]? = some u → isSl u = true := by
  intro j u h
  match j, h with
  | 0, h => cases h; rfl
  | 1, h => cases h; rfl
  | 2, h => cases h; rfl
  | j + 3, h => simp at h

/-- A position and an error; without an error the events are accepted. -/
def CheckTo (l : List Ev) (w : World) (e : Ending) (w' : World) : Prop := ∃ p r, e = .returned (.tuple #[.int .i64 p, .int .i64 r]) ∧ (r = 0 → OkRun l) ∧ Below w.heap.size w w'
theorem lastOfE_succ (l : List Ev) (k : Nat) (h : k < l.length) : lastOfE l (k + 1) = (l[k]).tm := by
  unfold lastOfE
  simp [List.getD, h]
def ck8Phi (a1 a2 a3 : Option Addr) (n1 n2 n3 c1 c2 c3 : Nat) (av : Option Addr) (n cap k : Nat) (bb o : Nat) (ev : Ev) (b : Bk) (last : Int) : Nat → Value → Prop
  | 0, v => v = .agg #[.slice a1 n1 c1, .slice a2 n2 c2, .slice a3 n3 c3]
  | 1, v => v = .slice av n cap
  | 2, v => v = .int .i64 k
  | 3, v => v = .pointer (some ⟨bb, o + k * 7, none⟩)
  | 4, v => v = evVal ev
  | 5, v => v = .int .i64 last
  | 6, v => ∃ r, v = .int .i64 r ∧ (r = 0 → OkEv b last ev)
  | _, _ => True
def ck11Phi (a1 a2 a3 : Option Addr) (n1 n2 n3 c1 c2 c3 : Nat) (av : Option Addr) (n cap k : Nat) (bb o : Nat) (ev : Ev) (b : Bk) : Nat → Value → World → Prop
  | 0, v, _ => v = .agg #[.slice a1 n1 c1, .slice a2 n2 c2, .slice a3 n3 c3]
  | 1, v, _ => v = .slice av n cap
  | 2, v, _ => v = .int .i64 k
  | 3, v, _ => v = .pointer (some ⟨bb, o + k * 7, none⟩)
  | 4, v, _ => v = evVal ev
  | 5, v, w' => ∃ (a1 a2 a3 : Option Addr) (n1 n2 n3 c1 c2 c3 : Nat) (X : List SbX), v = .agg #[.slice a1 n1 c1, .slice a2 n2 c2, .slice a3 n3 c3] ∧ BkAt w' (.slice a1 n1 c1) (.slice a2 n2 c2) (.slice a3 n3 c3) X (applyB b ev)
  | _, _, _ => True
theorem ck11_stays {a1 a2 a3 : Option Addr} {n1 n2 n3 c1 c2 c3 : Nat} {av : Option Addr} {n cap k bb o : Nat} {ev : Ev} {b : Bk} {w1 w2 : World} (hb : Below w1.heap.size w1 w2) : ∀ j y, ck11Phi a1 a2 a3 n1 n2 n3 c1 c2 c3 av n cap k bb o ev b j y w1 → ck11Phi a1 a2 a3 n1 n2 n3 c1 c2 c3 av n cap k bb o ev b j y w2
  | 0, _, h => h
  | 1, _, h => h
  | 2, _, h => h
  | 3, _, h => h
  | 4, _, h => h
  | 5, _, ⟨a1, a2, a3, n1, n2, n3, c1, c2, c3, X, h1, h2⟩ => ⟨a1, a2, a3, n1, n2, n3, c1, c2, c3, X, h1, h2.below hb⟩
  | _ + 6, _, _ => trivial

set_option maxRecDepth 100000 in
set_option maxHeartbeats 12800000 in
theorem check17_calls (v : Value) (l : List Ev) (w : World) (h : EvsAt w v l) (hl : l.length ≤ 1000) :
    Calls Tryz.prog 37 #[v] w (CheckTo l w) := by
  have HE := Lib.hid h.1
  have HSz := Lib.hid h.2
  have HSm := Lib.hid (small_book l)
  have HBs := Lib.hid (bookOf_snoc l)
  have HLs := Lib.hid (lastOfE_succ l)
  have HOK := Lib.hid (show (∀ j (hj : j < l.length), OkEv (bookOf (l.take j)) (lastOfE l j) l[j]) → OkRun l from fun h => h)
  obtain ⟨av, cap, rfl, hlc, hcm⟩ := rec_shape h.1
  unfold maxLen at hcm
  clear h
  obtain ⟨N, hN⟩ : ∃ N, N = l.length := ⟨_, rfl⟩
  rw [← hN] at hl hlc ⊢
  have HN := Lib.hid hN
  have r0 : (w.alloc (Obj.cells #[.slice none 0 0, .slice none 0 0, .slice none 0 0] 142)).heap[w.heap.size]? = some (Obj.cells #[.slice none 0 0, .slice none 0 0, .slice none 0 0] 142) := heap_alloc_new _ _
  have R0 := Lib.hid r0
  clear r0 hN
  go_enter Tryz.func37, Tryz.ntmps37
  go_wp2_with fail
  go_loopg [5, 6] N (fun g la i wx => ∃ k : Nat, k + g = N ∧ i = .int .i64 k ∧ la = .int .i64 (lastOfE l k) ∧ (∀ j (hj : j < l.length), j < k → OkEv (bookOf (l.take j)) (lastOfE l j) l[j]) ∧ Below w.heap.size w wx ∧
    ∃ (a1 a2 a3 : Option Addr) (n1 n2 n3 c1 c2 c3 : Nat) (X : List SbX), wx.heap[w.heap.size]? = some (Obj.cells #[.slice a1 n1 c1, .slice a2 n2 c2, .slice a3 n3 c3] 142) ∧ BkAt wx (.slice a1 n1 c1) (.slice a2 n2 c2) (.slice a3 n3 c3) X (bookOf (l.take k)))
  case atStart => exact ⟨0, by omega, rfl, rfl, fun j _ h => by omega, (Below.refl _ _).alloc (Nat.le_refl _) _, none, none, none, 0, 0, 0, 0, 0, 0, [], R0.out, ⟨SliceAt.nil _, SliceAt.nil _, rfl, fun x hx => (by cases hx), SliceAt.nil _⟩⟩
  case round =>
    obtain ⟨wo, rfl⟩ : ∃ wo : World, wo = wr := ⟨_, rfl⟩
    obtain ⟨k, hkg, rfl, rfl, hall, hb, a1, a2, a3, n1, n2, n3, c1, c2, c3, X, hrow, hbk⟩ := hrel
    have Hall := Lib.hid hall
    have Hb := Lib.hid hb
    have Hrow := Lib.hid hrow
    have Hbk := Lib.hid hbk
    clear hall hrow hbk
    cases gk with
    | zero =>
      have hkz : ¬ ((k : Int) < (N : Int)) := by omega
      have HF := Lib.hid (HOK.out fun j hj => Hall.out j hj (by have := HN.out; omega))
      clear hkg hb
      go_wp2
      go_ret2
      exact ⟨_, _, rfl, fun _ => HF.out, Hb.out⟩
    | succ g0 =>
      have hk1 : (k : Int) < (N : Int) := by omega
      have hk0 : (0 : Int) ≤ (k : Int) := Int.natCast_nonneg _
      have hkl : k < l.length := by have := HN.out; omega
      have HSmk := Lib.hid ((HSm.out k (by omega)).mono (show k ≤ 1000 by omega))
      have HB1 := Lib.hid (HBs.out k hkl)
      have HL1 := Lib.hid (HLs.out k hkl)
      have hsz := HSz.out l[k] (List.getElem_mem hkl)
      have Hsz := Lib.hid hsz
      obtain ⟨av2, cap2, e2, -, -, hx⟩ := HE.out
      have e3 : av2 = av ∧ cap2 = cap := by
        have := HN.out
        simp only [Value.slice.injEq] at e2
        exact ⟨e2.1.symm, e2.2.2.symm⟩
      obtain ⟨rfl, rfl⟩ := e3
      obtain ⟨bb, o, rfl, hB, hx⟩ := hx (by intro e; rw [e] at hkl; cases hkl)
      have HXc := Lib.hid (show ∀ Y, Below w.heap.size w Y → ∀ j, j < 7 → Y.cell? ⟨bb, o + k * 7 + j, none⟩ = (evCells l[k])[j]? from fun Y hY j hj => (hY.cell (p := ⟨bb, _, none⟩) hB).trans (hx k hkl j hj))
      have HAk := Lib.hid (fun (hok : OkEv (bookOf (l.take k)) (lastOfE l k) l[k]) => (show ∀ j (hj : j < l.length), j < k + 1 → OkEv (bookOf (l.take j)) (lastOfE l j) l[j] from fun j hj hjk => by
        by_cases h : j = k
        · subst h; exact hok
        · exact Hall.out j hj (by omega)))
      obtain ⟨ev, hev⟩ : ∃ ev, ev = l[k] := ⟨_, rfl⟩
      obtain ⟨la, hla⟩ : ∃ la, la = lastOfE l k := ⟨_, rfl⟩
      obtain ⟨bk, hbkk⟩ : ∃ bk, bk = bookOf (l.take k) := ⟨_, rfl⟩
      rw [← hev] at Hsz HXc HAk HB1 HL1
      rw [← hla] at HAk ⊢
      rw [← hbkk] at HAk Hbk HB1 HSmk
      have Hkg := Lib.hid hkg
      clear hev hla hbkk hx e2 hsz hb hkg
      have HFt := Lib.hid (fun Y (hY : Below wo.heap.size wo Y) => fault17_calls _ _ _ X bk ev la Y (Hbk.out.below hY) Hsz.out.1 Hsz.out.2)
      go_upto_region 8 with (fail)
      refine wp_region_free2 (fun w' => Below wo.heap.size wo w') (fun i v _ => ck8Phi a1 a2 a3 n1 n2 n3 c1 c2 c3 (some ⟨bb, o, none⟩) N cap2 k bb o ev bk la i v) (by kernel_rfl) (by decide) (by kernel_rfl) (Below.refl _ _).drew ?_
      generalize hfr : (fun v : Nat → Value => _) = fr
      simp only [List.map_cons, List.map_nil, putsL, List.setIfInBounds_toArray, List.set_cons_succ, List.set_cons_zero, Nat.zero_add, Nat.reduceAdd] at hfr
      simp only [FreeOps]
      refine ⟨?_, ?_, ?_, ?_, ?_, ?_, ?_, ?_⟩
      · intro v w2 hC hd K hK
        have p0 := cell_of_row w2 _ 0 _ _ _ ((hC.block _ (Array.getElem?_eq_some_iff.1 Hrow.out).1).trans Hrow.out)
        have p1 := cell_of_row w2 _ 1 _ _ _ ((hC.block _ (Array.getElem?_eq_some_iff.1 Hrow.out).1).trans Hrow.out)
        have p2 := cell_of_row w2 _ 2 _ _ _ ((hC.block _ (Array.getElem?_eq_some_iff.1 Hrow.out).1).trans Hrow.out)
        rw [← hfr] at hK ⊢
        go_simp
        exact hK _ _ hC (fun _ _ h => h) rfl
      · intro v w2 hC hd K hK
        rw [← hfr] at hK ⊢
        go_simp
        exact hK _ _ hC (fun _ _ h => h) rfl
      · intro v w2 hC hd K hK
        rw [← hfr] at hK ⊢
        go_simp
        exact hK _ _ hC (fun _ _ h => h) rfl
      · intro v w2 hC hd K hK
        obtain ⟨f1, f2, -⟩ := hd
        have e1 : v 1 = _ := f1
        have e2 : v 2 = _ := f2
        rw [← hfr] at hK ⊢
        simp only [e1, e2] at hK ⊢
        go_simp
        exact hK _ _ hC (fun _ _ h => h) rfl
      · intro v w2 hC hd K hK
        obtain ⟨f3, -⟩ := hd
        have e3 : v 3 = _ := f3
        have x0 : w2.cell? ⟨bb, o + k * 7, none⟩ = some (.int .i64 ev.tm) := HXc.out w2 (Hb.out.trans (hC.mono Hb.out.size)) 0 (by decide)
        have x1 : w2.cell? ⟨bb, o + k * 7 + 1, none⟩ = some (.int .i64 ev.kd) := HXc.out w2 (Hb.out.trans (hC.mono Hb.out.size)) 1 (by decide)
        have x2 : w2.cell? ⟨bb, o + k * 7 + 2, none⟩ = some (.int .i64 ev.ac) := HXc.out w2 (Hb.out.trans (hC.mono Hb.out.size)) 2 (by decide)
        have x3 : w2.cell? ⟨bb, o + k * 7 + 3, none⟩ = some (.int .i64 ev.sb) := HXc.out w2 (Hb.out.trans (hC.mono Hb.out.size)) 3 (by decide)
        have x4 : w2.cell? ⟨bb, o + k * 7 + 4, none⟩ = some (.string ev.nu) := HXc.out w2 (Hb.out.trans (hC.mono Hb.out.size)) 4 (by decide)
        have x5 : w2.cell? ⟨bb, o + k * 7 + 5, none⟩ = some (.string ev.nm) := HXc.out w2 (Hb.out.trans (hC.mono Hb.out.size)) 5 (by decide)
        have x6 : w2.cell? ⟨bb, o + k * 7 + 6, none⟩ = some (.int .i64 ev.vl) := HXc.out w2 (Hb.out.trans (hC.mono Hb.out.size)) 6 (by decide)
        rw [← hfr] at hK ⊢
        simp only [e3] at hK ⊢
        go_simp
        exact hK _ _ hC (fun _ _ h => h) rfl
      · intro v w2 hC hd K hK
        rw [← hfr] at hK ⊢
        go_simp
        exact hK _ _ hC (fun _ _ h => h) rfl
      · intro v w2 hC hd K hK
        obtain ⟨f0, f4, f5, -⟩ := hd
        have e0 : v 0 = _ := f0
        have e4 : v 4 = _ := f4
        have e5 : v 5 = _ := f5
        have HF := Lib.hid (HFt.out w2 hC)
        rw [← hfr] at hK ⊢
        simp only [e0, e4, e5] at hK ⊢
        go_simp
        refine HF.out.mono ?_
        rintro e w3 ⟨r, rfl, hr, hb3⟩
        exact hK _ _ (hC.trans (hb3.mono hC.size)) (fun _ _ h => h) ⟨r, rfl, hr⟩
      · intro v w2 hC hall
        obtain ⟨-, r, f6, hr⟩ := hall
        have e6 : v 6 = _ := f6
        rw [← hfr]
        simp only [e6]
        go_simp
        have Hr := Lib.hid hr
        have Hb2 := Lib.hid (Hb.out.trans (hC.mono Hb.out.size))
        have Hrow2 := Lib.hid ((hC.block _ (Array.getElem?_eq_some_iff.1 Hrow.out).1).trans Hrow.out)
        have Hbk2 := Lib.hid (Hbk.out.below hC)
        generalize v 0 = y0, v 1 = y1, v 2 = y2, v 3 = y3, v 4 = y4, v 5 = y5
        clear e6 f6 hr hfr v HFt hC
        by_cases hrz : r = 0
        · subst hrz
          have HOk := Lib.hid (Hr.out rfl)
          have HApp := Lib.hid (fun Y (hY : Below w2.heap.size w2 Y) => apply_calls _ _ _ X bk ev la Y (Hbk2.out.below hY) HOk.out HSmk.out Hsz.out.1 Hsz.out.2)
          go_upto_region 11 with (fail)
          obtain ⟨wp, hwp⟩ : ∃ wp, wp = w2 := ⟨_, rfl⟩
          rw [← hwp] at Hb2 Hrow2 Hbk2 HApp ⊢
          clear hwp
          refine wp_region_free2 (fun w' => Below wp.heap.size wp w') (ck11Phi a1 a2 a3 n1 n2 n3 c1 c2 c3 (some ⟨bb, o, none⟩) N cap2 k bb o ev bk) (by kernel_rfl) (by decide) (by kernel_rfl) (Below.refl _ _).drew ?_
          generalize hfr : (fun v : Nat → Value => _) = fr
          simp only [List.map_cons, List.map_nil, putsL, List.setIfInBounds_toArray, List.set_cons_succ, List.set_cons_zero, Nat.zero_add, Nat.reduceAdd] at hfr
          simp only [FreeOps]
          refine ⟨?_, ?_, ?_, ?_, ?_, ?_, ?_⟩
          · intro v w2 hC hd K hK
            have p0 := cell_of_row w2 _ 0 _ _ _ ((hC.block _ (Array.getElem?_eq_some_iff.1 Hrow2.out).1).trans Hrow2.out)
            have p1 := cell_of_row w2 _ 1 _ _ _ ((hC.block _ (Array.getElem?_eq_some_iff.1 Hrow2.out).1).trans Hrow2.out)
            have p2 := cell_of_row w2 _ 2 _ _ _ ((hC.block _ (Array.getElem?_eq_some_iff.1 Hrow2.out).1).trans Hrow2.out)
            rw [← hfr] at hK ⊢
            go_simp
            exact hK _ _ hC (ck11_stays (Below.refl _ _)) rfl
          · intro v w2 hC hd K hK
            rw [← hfr] at hK ⊢
            go_simp
            exact hK _ _ hC (ck11_stays (Below.refl _ _)) rfl
          · intro v w2 hC hd K hK
            rw [← hfr] at hK ⊢
            go_simp
            exact hK _ _ hC (ck11_stays (Below.refl _ _)) rfl
          · intro v w2 hC hd K hK
            obtain ⟨f1, f2, -⟩ := hd
            have e1 : v 1 = _ := f1
            have e2 : v 2 = _ := f2
            rw [← hfr] at hK ⊢
            simp only [e1, e2] at hK ⊢
            go_simp
            exact hK _ _ hC (ck11_stays (Below.refl _ _)) rfl
          · intro v w2 hC hd K hK
            obtain ⟨f3, -⟩ := hd
            have e3 : v 3 = _ := f3
            have x0 : w2.cell? ⟨bb, o + k * 7, none⟩ = some (.int .i64 ev.tm) := HXc.out w2 (Hb2.out.trans (hC.mono Hb2.out.size)) 0 (by decide)
            have x1 : w2.cell? ⟨bb, o + k * 7 + 1, none⟩ = some (.int .i64 ev.kd) := HXc.out w2 (Hb2.out.trans (hC.mono Hb2.out.size)) 1 (by decide)
            have x2 : w2.cell? ⟨bb, o + k * 7 + 2, none⟩ = some (.int .i64 ev.ac) := HXc.out w2 (Hb2.out.trans (hC.mono Hb2.out.size)) 2 (by decide)
            have x3 : w2.cell? ⟨bb, o + k * 7 + 3, none⟩ = some (.int .i64 ev.sb) := HXc.out w2 (Hb2.out.trans (hC.mono Hb2.out.size)) 3 (by decide)
            have x4 : w2.cell? ⟨bb, o + k * 7 + 4, none⟩ = some (.string ev.nu) := HXc.out w2 (Hb2.out.trans (hC.mono Hb2.out.size)) 4 (by decide)
            have x5 : w2.cell? ⟨bb, o + k * 7 + 5, none⟩ = some (.string ev.nm) := HXc.out w2 (Hb2.out.trans (hC.mono Hb2.out.size)) 5 (by decide)
            have x6 : w2.cell? ⟨bb, o + k * 7 + 6, none⟩ = some (.int .i64 ev.vl) := HXc.out w2 (Hb2.out.trans (hC.mono Hb2.out.size)) 6 (by decide)
            rw [← hfr] at hK ⊢
            simp only [e3] at hK ⊢
            go_simp
            exact hK _ _ hC (ck11_stays (Below.refl _ _)) rfl
          · intro v w2 hC hd K hK
            obtain ⟨f0, f4, -⟩ := hd
            have e0 : v 0 = _ := f0
            have e4 : v 4 = _ := f4
            have HF := Lib.hid (HApp.out w2 hC)
            rw [← hfr] at hK ⊢
            simp only [e0, e4] at hK ⊢
            go_simp
            refine HF.out.mono ?_
            rintro e w3 ⟨b1, b2, b3, m1, m2, m3, d1, d2, d3, X2, rfl, hbk3, hb3, -⟩
            exact hK _ _ (hC.trans (hb3.mono hC.size)) (ck11_stays hb3) ⟨b1, b2, b3, m1, m2, m3, d1, d2, d3, X2, rfl, hbk3⟩
          · intro v w2 hC hall
            obtain ⟨-, b1, b2, b3, m1, m2, m3, d1, d2, d3, X2, f5, hbk3⟩ := hall
            have e5 : v 5 = _ := f5
            have hrow3 := (hC.block _ (Array.getElem?_eq_some_iff.1 Hrow2.out).1).trans Hrow2.out
            refine wp_store_row _ _ _ rfl w.heap.size #[.slice b1 m1 d1, .slice b2 m2 d2, .slice b3 m3 d3] (by rw [← hfr]; rfl) (by rw [← hfr]; exact e5) 142 _ hrow3 (by kernel_rfl) rfl (by simp [Value.oneCell']) ?_
            have Hrow4 := Lib.hid (setRow_heap w2 w.heap.size _ #[.slice b1 m1 d1, .slice b2 m2 d2, .slice b3 m3 d3] _ _ hrow3)
            have Hbk4 := Lib.hid (hbk3.setRow hrow3 three_sl #[.slice b1 m1 d1, .slice b2 m2 d2, .slice b3 m3 d3])
            have Hb4 := Lib.hid (below_setRow1 (Hb2.out.trans (hC.mono Hb2.out.size)) (Nat.le_refl _) #[.slice b1 m1 d1, .slice b2 m2 d2, .slice b3 m3 d3])
            obtain ⟨w6, hw6⟩ : ∃ w6, w6 = w2.setRow w.heap.size #[.slice b1 m1 d1, .slice b2 m2 d2, .slice b3 m3 d3] := ⟨_, rfl⟩
            rw [← hw6] at Hrow4 Hbk4 Hb4 ⊢
            rw [← hfr]
            simp only [e5]
            generalize v 0 = z0, v 1 = z1, v 2 = z2, v 3 = z3, v 4 = z4
            have x0 : w6.cell? ⟨bb, o + k * 7, none⟩ = some (.int .i64 ev.tm) := HXc.out w6 Hb4.out 0 (by decide)
            clear hw6 hbk3 hrow3 e5 f5 hfr v hC HApp
            go_wp2
            go_roundg g0
            case measure => omega
            case rel => exact ⟨k + 1, by have := Hkg.out; omega, by go_num, by rw [HL1.out], HAk.out HOk.out, Hb4.out, b1, b2, b3, m1, m2, m3, d1, d2, d3, X2, Hrow4.out, by rw [HB1.out]; exact Hbk4.out⟩
        · have hrzb : (r != 0) = true := bne_iff_ne.2 hrz
          have Hrz := Lib.hid hrz
          clear hrz
          go_wp2
          go_ret2
          exact ⟨_, _, rfl, fun h => absurd h Hrz.out, Hb2.out⟩
end Go.Proofs.YtngippiilgdnoaaGreat
