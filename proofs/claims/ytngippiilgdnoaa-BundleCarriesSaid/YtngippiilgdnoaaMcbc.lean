/-
  The walks of filter at products, by the two function literals of product.
-/
import Derived.Test.YtngippiilgdnoaaMcbb
import Derived.Deep.QuietTactic
import Derived.BigQuiet
import Derived.Deep.RegionHeld3
import Derived.Test.YtngippiilgdnoaaMcah
set_option maxRecDepth 100000
set_option maxHeartbeats 25600000
namespace Go.Proofs.Ytngippiilgdnoaa
open Go.RowKit
end Go.Proofs.Ytngippiilgdnoaa
namespace Go.Proofs.Ytngippiilgdnoaa
open Go.RowKit
def BdR (w : World) (b o : Nat) (x : Bd) : Prop :=
 w.cell? ⟨b, o, none⟩ = some (.int .i64 x.kd) ∧ (∃ zv, w.cell? ⟨b, o + 1, none⟩ = some zv ∧ StrsAt w zv x.zs) ∧ w.cell? ⟨b, o + 2, none⟩ = some (.int .i64 x.un) ∧ w.cell? ⟨b, o + 3, none⟩ = some (.int .i64 x.ro) ∧
  w.cell? ⟨b, o + 4, none⟩ = some (.int .i64 x.pr) ∧ w.cell? ⟨b, o + 5, none⟩ = some (.bool x.sh)
theorem BdR.stays : Stays BdR := fun w w' b _ _ hb hB ⟨h0, ⟨zv, h1, hz⟩, h2, h3, h4, h5⟩ =>
 have c : ∀ j, w'.cell? ⟨b, j, none⟩ = w.cell? ⟨b, j, none⟩ := fun j => hb.cell (p := ⟨b, j, none⟩) hB
 ⟨(c _).trans h0, ⟨zv, (c _).trans h1, hz.below hb⟩, (c _).trans h2, (c _).trans h3, (c _).trans h4, (c _).trans h5⟩
def BdsAt (w : World) (v : Value) (l : List Bd) : Prop := SliceAt 6 BdR w v l
theorem BdsAt.below {w w' : World} {v : Value} {l : List Bd} (h : BdsAt w v l) (hb : Below w.heap.size w w') : BdsAt w' v l := SliceAt.below BdR.stays h hb
def pdVal (p : Pd) (bv : Value) : Value := .agg #[.string p.nm, .int .i64 p.fm, .int .i64 p.fe, .string p.ct, .bool p.pro, bv]
def PdR (w : World) (b o : Nat) (x : Pd) : Prop :=
 (w.cell? ⟨b, o, none⟩ = some (.string x.nm) ∧ x.nm.size ≤ maxLen) ∧ w.cell? ⟨b, o + 1, none⟩ = some (.int .i64 x.fm) ∧ w.cell? ⟨b, o + 2, none⟩ = some (.int .i64 x.fe) ∧ (w.cell? ⟨b, o + 3, none⟩ = some (.string x.ct) ∧ x.ct.size ≤ maxLen) ∧
  w.cell? ⟨b, o + 4, none⟩ = some (.bool x.pro) ∧ ∃ bv, w.cell? ⟨b, o + 5, none⟩ = some bv ∧ BdsAt w bv x.bs
theorem PdR.stays : Stays PdR := fun w w' b _ _ hb hB ⟨⟨h0, s0⟩, h1, h2, ⟨h3, s3⟩, h4, bv, h5, hz⟩ =>
 have c : ∀ j, w'.cell? ⟨b, j, none⟩ = w.cell? ⟨b, j, none⟩ := fun j => hb.cell (p := ⟨b, j, none⟩) hB
 ⟨⟨(c _).trans h0, s0⟩, (c _).trans h1, (c _).trans h2, ⟨(c _).trans h3, s3⟩, (c _).trans h4, bv, (c _).trans h5, hz.below hb⟩
def PdsAt (w : World) (v : Value) (l : List Pd) : Prop := SliceAt 6 PdR w v l
theorem PdsAt.below {w w' : World} {v : Value} {l : List Pd} (h : PdsAt w v l) (hb : Below w.heap.size w w') : PdsAt w' v l := SliceAt.below PdR.stays h hb
theorem Try.productInfo : (Try.prog.info? 49).map (fun i => (i.zero, i.size, i.bytes)) = some (some (.agg #[.string ⟨#[]⟩, .int .i64 0, .int .i64 0, .string ⟨#[]⟩, .bool false, .slice none 0 0]), 6, 80) := by kernel_rfl
def pdCells (q : Pd × Value) : List Value := [.string q.1.nm, .int .i64 q.1.fm, .int .i64 q.1.fe, .string q.1.ct, .bool q.1.pro, q.2]
theorem pds_own {w : World} {base : Nat} {e : TypeId} {v : Value} {qs : List (Pd × Value)} (h : w.ownsRow base e 6 v qs.length (qs.flatMap pdCells)) (hq : ∀ q ∈ qs, q.1.nm.size ≤ maxLen ∧ q.1.ct.size ≤ maxLen ∧ BdsAt w q.2 q.1.bs) : PdsAt w v (qs.map (·.1)) := by
 have hs : SliceAt 6 (fun w b o (q : Pd × Value) => PdR w b o q.1) w v qs := SliceAt.own pdCells (fun _ => rfl) h fun g o i hi hc => by
  obtain ⟨h1, h2, h3⟩ := hq qs[i] (List.getElem_mem hi)
  exact ⟨⟨hc 0 (by omega), h1⟩, hc 1 (by omega), hc 2 (by omega), ⟨hc 3 (by omega), h2⟩, hc 4 (by omega), _, hc 5 (by omega), h3⟩
 obtain ⟨av, cap, hv, hl, hm, hc⟩ := hs
 refine ⟨av, cap, by rw [List.length_map]; exact hv, by rw [List.length_map]; exact hl, hm, fun hne => ?_⟩
 obtain ⟨b, o, e, hB, hx⟩ := hc (by rintro rfl; exact hne rfl)
 exact ⟨b, o, e, hB, fun i hi => by
  rw [List.getElem_map]
  exact hx i (by simpa using hi)⟩
def FilteredP (w : World) (l : List Pd) (keep : Pd → Bool) (e : Ending) (w' : World) : Prop :=
 ∃ v, e = .returned v ∧ PdsAt w' v (l.filter keep) ∧ Below w.heap.size w w'
theorem at1_calls (x : Pd) (bv : Value) (s : ByteArray) (t : Int) (b1 b2 : Nat) (w : World) (hx : BdsAt w bv x.bs) (h1 : w.cell? ⟨b1, 0, none⟩ = some (.string s)) (h2 : w.cell? ⟨b2, 0, none⟩ = some (.int .i64 t)) :
 Calls Try.prog 36 #[pdVal x bv, .pointer (some ⟨b1, 0, none⟩), .pointer (some ⟨b2, 0, none⟩)] w fun e w' => e = .returned (.bool (eqS x.nm s && decide (x.fm ≤ t))) ∧ Below w.heap.size w w' := by
 obtain ⟨av, cap, rfl, -, -, -⟩ := hx
 unfold pdVal
 have g1 := World.block_lt_of_cell? w _ h1
 have g2 := World.block_lt_of_cell? w _ h2
 dsimp only at g1 g2
 cases hE : (x.nm.toList == s.toList) with
 | true =>
  have H := hZ9 (show eqS x.nm s = true from hE)
  go_enter Try.func36, Try.ntmps36
  go_wp2
  go_ret
  exact ⟨ret_bool (by rw [H.out]; simp), by go_grown⟩
 | false =>
  have H := hZ9 (show eqS x.nm s = false from hE)
  go_enter Try.func36, Try.ntmps36
  go_wp2
  go_ret
  exact ⟨ret_bool (by rw [H.out]; simp), by go_grown⟩
theorem filterAt_calls_keep (s : ByteArray) (t : Int) (l : List Pd) (k : Nat) (h : k < l.length) : (l.take (k + 1)).filter (fun x : Pd => eqS x.nm s && decide (x.fm ≤ t)) = (l.take k).filter (fun x : Pd => eqS x.nm s && decide (x.fm ≤ t)) ++ (if (fun x : Pd => eqS x.nm s && decide (x.fm ≤ t)) l[k] then [l[k]] else []) := filter_snoc _ l k h
theorem filterAt_calls (v : Value) (l : List Pd) (s : ByteArray) (t : Int) (b1 b2 : Nat) (w : World) (h : PdsAt w v l) (hl : l.length ≤ 4096) (h1 : w.cell? ⟨b1, 0, none⟩ = some (.string s)) (h2 : w.cell? ⟨b2, 0, none⟩ = some (.int .i64 t)) :
 Calls Try.prog 35 #[v, .func (.func 36) #[] #[.pointer (some ⟨b1, 0, none⟩), .pointer (some ⟨b2, 0, none⟩)]] w (FilteredP w l (fun x : Pd => eqS x.nm s && decide (x.fm ≤ t))) := by
 have hh := h
 obtain ⟨av, cap, rfl, -, -, -⟩ := h
 have g1 := World.block_lt_of_cell? w _ h1
 have g2 := World.block_lt_of_cell? w _ h2
 dsimp only at g1 g2
 go_enter Try.func35, Try.ntmps35
 go_wp2_with fail
 go_loopw [5, 10] (fun v i wr => ∃ (k : Nat) (qs : List (Pd × Value)), k ≤ l.length ∧ i = .int .i64 k ∧ wr.ownsRow w.heap.size 49 6 v qs.length (qs.flatMap pdCells) ∧ qs.map (·.1) = (l.take k).filter (fun x : Pd => eqS x.nm s && decide (x.fm ≤ t)) ∧
  (∀ q ∈ qs, q.1.nm.size ≤ maxLen ∧ q.1.ct.size ≤ maxLen ∧ BdsAt w q.2 q.1.bs) ∧ Below w.heap.size w wr) (fun _ i _ => l.length - (intOf i).toNat)
 case atStart => exact ⟨0, [], Nat.zero_le _, rfl, ⟨rfl, Or.inl ⟨rfl, rfl⟩⟩, rfl, by simp, Below.refl _ _⟩
 case round =>
  obtain ⟨k, qs, hk, rfl, hown, hqs, hqa, hb⟩ := hrel
  by_cases hlt : k < l.length
  · obtain ⟨av', cap', hv, -, -, hs⟩ := hh.below hb
    obtain ⟨av0, cap0, hv0, -, -, hs0⟩ := id hh
    cases hv
    cases hv0
    obtain ⟨b, o, rfl, hB, hs⟩ := hs (by rintro rfl; cases hlt)
    obtain ⟨b', o', e', hB0, hs0⟩ := hs0 (by rintro rfl; cases hlt)
    cases e'
    obtain ⟨⟨c0, s0⟩, c1, c2, ⟨c3, s3⟩, c4, bv, c5, hz⟩ := hs k hlt
    obtain ⟨⟨-, -⟩, -, -, ⟨-, -⟩, -, bv', c5', hz'⟩ := hs0 k hlt
    have ebv : bv' = bv := by
     have := (hb.cell (p := ⟨b, o + k * 6 + 5, none⟩) hB0).symm.trans c5
     rw [c5'] at this
     exact Option.some.inj this
    subst ebv
    have hf := filterAt_calls_keep s t l k hlt
    have hle : qs.length ≤ k := by
     have := congrArg List.length hqs
     rw [List.length_map] at this
     rw [this]; exact filter_take_le _ l k
    clear hs hs0 c5'
    generalize l[k] = x at *
    have n1 := (hb.cell (p := ⟨b1, 0, none⟩) g1).trans h1
    have n2 := (hb.cell (p := ⟨b2, 0, none⟩) g2).trans h2
    have hk0 : (0 : Int) ≤ (k : Int) := Int.natCast_nonneg _
    have hk1 : (k : Int) < (l.length : Int) := by omega
    have hbz := hb.size
    have Hown := hZ9 hown
    have Hqa := hZ9 hqa
    have Hqs := hZ9 hqs
    have HK := hZ9 (fun (w1 : World) (hb1 : Below wr.heap.size wr w1) => at1_calls x bv' s t b1 b2 w1 (hz.below hb1) ((hb1.cell (p := ⟨b1, 0, none⟩) (Nat.lt_of_lt_of_le g1 hbz)).trans n1) ((hb1.cell (p := ⟨b2, 0, none⟩) (Nat.lt_of_lt_of_le g2 hbz)).trans n2))
    have Hz0 := hZ9 hz'
    obtain ⟨az, cz, rfl, -, -, -⟩ := hz
    obtain ⟨nm, fm, fe, ct, pro, bs⟩ := x
    unfold pdVal at HK
    dsimp only at *
    clear hown hqa hqs hz' h1 h2
    obtain ⟨X, hX⟩ : ∃ X, X = wr.alloc (Obj.cells #[Value.string nm, Value.int .i64 fm, Value.int .i64 fe, Value.string ct, Value.bool pro, Value.slice az bs.length cz] 49) := ⟨_, rfl⟩
    have hbX : Below wr.heap.size wr X := by rw [hX]; go_grown
    have hlX : wr.heap.size < X.heap.size := by rw [hX]; simp
    have hrX : X.heap[wr.heap.size]? = some (Obj.cells #[Value.string nm, Value.int .i64 fm, Value.int .i64 fe, Value.string ct, Value.bool pro, Value.slice az bs.length cz] 49) := by rw [hX]; exact heap_alloc_new _ _
    have HX := hZ9 hX
    clear hX
    cases hx : (eqS nm s && decide (fm ≤ t)) with
    | true =>
     rw [if_pos hx] at hf
     have HF := hZ9 hf
     have HX2 := hZ9 hx
     clear hf hx
     go_wp2_with fail
     rw [← HX.out]
     refine (HK.out X hbX).mono ?_
     rintro e w1 ⟨rfl, hb1⟩
     rw [HX2.out]
     have hr1 := (hb1.block wr.heap.size hlX).trans hrX
     have hb2 := hbX.trans (hb1.mono hbX.size)
     have hb3 := hb.trans (hb2.mono hbz)
     have hown1 := ownsRow_below Hown.out hb2
     have hz1 := hb3.size
     have tQ := fun j => cell_of_row w1 _ j _ _ _ hr1
     have k0 := tQ 0
     have k1 := tQ 1
     have k2 := tQ 2
     have k3 := tQ 3
     have k4 := tQ 4
     have k5 := tQ 5
     clear tQ
     have Hown1 := hZ9 hown1
     obtain ⟨i0, hi, hz0, hz1', hz2⟩ := info_parts Try.productInfo
     have Hi := hZ9 (And.intro hi (And.intro hz0 (And.intro hz1' hz2)))
     clear hi hz0 hz1' hz2 hown1 hr1 hb1
     simp at k0 k1 k2 k3 k4 k5
     go_wp2_with (at_builtin; refine wpList_append_own _ rfl _ _ 32 rfl w.heap.size 49 i0 _ 6 80 Try.underlying32 Hi.out.1 Hi.out.2.1 Hi.out.2.2.1 Hi.out.2.2.2 rfl (by decide) _ _ _ rfl (Hown1.out.alloc _) ⟨w1.heap.size, 0, none⟩ 1 1 [.string nm, .int .i64 fm, .int .i64 fe, .string ct, .bool pro, .slice az bs.length cz] rfl rfl ?c1 ?c2 ?c3 ?c4 ?c5 ?_)
     case c1 => exact World.news_of_block (cs := #[.string nm, .int .i64 fm, .int .i64 fe, .string ct, .bool pro, .slice az bs.length cz]) (t := 49) (fr := (0, 0)) (heap_alloc_new _ _)
     case c2 => simp [Value.oneCell']
     case c3 => unfold maxLen; omega
     case c4 => omega
     case c5 => simp; omega
     intro v' w2 hown2 hgrow _
     have hb4 := (hb3.alloc hz1 (Obj.cells #[.string nm, .int .i64 fm, .int .i64 fe, .string ct, .bool pro, .slice az bs.length cz] 49)).grown hgrow (by simp; omega) (fun g hg => (ownsRow_block Hown.out g hg).1)
     have Hown2 := hZ9 hown2
     clear hown2 hgrow
     go_wp2
     refine ⟨⟨k + 1, qs ++ [(⟨nm, fm, fe, ct, pro, bs⟩, .slice az bs.length cz)], by omega, by go_num, ?_, ?_, ?_, hb4⟩, by simp [intOf]; omega⟩
     · have := Hown2.out
       simpa [List.flatMap_append, pdCells] using this
     · rw [HF.out, List.map_append, Hqs.out]; rfl
     intro q hq
     rcases List.mem_append.1 hq with hq | hq
     · exact Hqa.out q hq
     rw [List.mem_singleton.1 hq]
     exact ⟨s0, s3, Hz0.out⟩
    | false =>
     rw [if_neg (by rw [hx]; decide), List.append_nil] at hf
     have HF := hZ9 hf
     have HX2 := hZ9 hx
     clear hf hx
     go_wp2_with fail
     rw [← HX.out]
     refine (HK.out X hbX).mono ?_
     rintro e w1 ⟨rfl, hb1⟩
     rw [HX2.out]
     have hb2 := hbX.trans (hb1.mono hbX.size)
     have hb3 := hb.trans (hb2.mono hbz)
     have Hown1 := hZ9 (ownsRow_below Hown.out hb2)
     clear hb1
     go_wp2
     exact ⟨⟨k + 1, qs, by omega, by go_num, Hown1.out, by rw [HF.out]; exact Hqs.out, Hqa.out, hb3⟩, by simp [intOf]; omega⟩
  have hall : l.take k = l := List.take_of_length_le (by omega)
  rw [hall] at hqs
  have hp := pds_own hown (fun q hq => let ⟨a, c, d⟩ := hqa q hq; ⟨a, c, d.below hb⟩)
  rw [hqs] at hp
  obtain ⟨ax, cx, rfl, -⟩ := own_shape hown
  have HP := hZ9 hp
  clear hp hqs hqa hown hall
  go_wp2
  go_ret
  exact ⟨_, rfl, HP.out, hb⟩
end Go.Proofs.Ytngippiilgdnoaa
