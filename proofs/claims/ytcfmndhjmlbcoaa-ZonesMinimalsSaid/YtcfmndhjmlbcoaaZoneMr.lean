/-
  The walk of the reference's Minimal.
-/
import Derived.Test.YtcfmndhjmlbcoaaZonePb
namespace Go.Proofs.Ytcfmndhjmlbcoaa
open Go.RowKit Go.Sort

/-- What the rows gathered of the first names are. -/
def Raw2 (l : List Zn) (T : List ByteArray) (R : List Zr) : Prop :=
  R.length ≤ T.length ∧ (R.map (·.1)).Sublist T ∧ (∀ r ∈ R, r.2.2 ≠ [] ∧ r.2.2.Pairwise ltD) ∧ ∀ x, x ∈ prs (R.map zrZn) ↔ x ∈ prs l ∧ x.2 ∈ T ∧ keepP (prs l) x = true
theorem raw2_skip {l : List Zn} {T : List ByteArray} {R : List Zr} (h : Raw2 l T R) {nm : ByteArray} (hn : PrefOf (prs l) nm (prs l) []) : Raw2 l (T ++ [nm]) R := by
  obtain ⟨h0, h1, h2, h3⟩ := h
  refine ⟨by simp; omega, h1.trans (List.sublist_append_left _ _), h2, fun x => ?_⟩
  rw [h3, List.mem_append, List.mem_singleton]
  constructor
  · rintro ⟨a, b, c⟩; exact ⟨a, Or.inl b, c⟩
  · rintro ⟨a, b | b, c⟩
    · exact ⟨a, b, c⟩
    · obtain ⟨p, q⟩ := x
      simp only at b
      subst b
      exact absurd ((hn.2 p).2 ⟨a, c⟩) (by simp)
theorem raw2_more {l : List Zn} {T : List ByteArray} {R : List Zr} (h : Raw2 l T R) (r : Zr) (hne : r.2.2 ≠ []) (hn : PrefOf (prs l) r.1 (prs l) r.2.2) : Raw2 l (T ++ [r.1]) (R ++ [r]) := by
  obtain ⟨h0, h1, h2, h3⟩ := h
  refine ⟨by simp; omega, by rw [List.map_append]; exact h1.append (List.Sublist.refl _), ?_, fun x => ?_⟩
  · intro q hq
    rcases List.mem_append.1 hq with hq | hq
    · exact h2 q hq
    · simp only [List.mem_singleton] at hq
      rw [hq]; exact ⟨hne, hn.1⟩
  · obtain ⟨p, nm⟩ := x
    rw [List.map_append, prs_append, List.mem_append, h3, List.map_cons, List.map_nil, prs_one, List.mem_append, List.mem_singleton]
    have e : (p, nm) ∈ (zrZn r).2.map (fun p => (p, (zrZn r).1)) ↔ nm = r.1 ∧ (p, nm) ∈ prs l ∧ keepP (prs l) (p, nm) = true := by
      rw [List.mem_map]
      constructor
      · rintro ⟨q, hq, e⟩
        have e1 : q = p := congrArg Prod.fst e
        have e2 : r.1 = nm := congrArg Prod.snd e
        subst e1 e2
        exact ⟨rfl, (hn.2 q).1 hq⟩
      · rintro ⟨rfl, h⟩
        exact ⟨p, (hn.2 p).2 h, rfl⟩
    rw [e]
    constructor
    · rintro (⟨a, b, c⟩ | ⟨a, b, c⟩)
      · exact ⟨a, Or.inl b, c⟩
      · exact ⟨b, Or.inr a, c⟩
    · rintro ⟨a, b | b, c⟩
      · exact Or.inl ⟨a, b, c⟩
      · exact Or.inr ⟨b, a, c⟩
theorem raw2_end {l : List Zn} {R : List Zr} (hc : checkZ l = 0) (h : Raw2 l (namesZ l) R) : MinOf l (R.map zrZn) := by
  obtain ⟨-, h1, h2, h3⟩ := h
  have hnd := (checkZ_ok hc).2.2.2
  have hS : namesZ l = sortT (l.map (·.1)) := by unfold namesZ; rw [if_neg (not_not_intro hc)]
  have hsrt : (namesZ l).Pairwise ltT := by
    rw [hS]
    exact List.Pairwise.imp₂ (fun a b (n1 : ¬ ltT b a) (n2 : a ≠ b) => Classical.byContradiction fun n3 => n2 (ltT_tri n3 n1)) (sortT_sorted _) ((sortT_perm _).nodup_iff.2 hnd)
  unfold MinOf
  rw [if_neg (not_not_intro hc)]
  refine ⟨⟨?_, ?_⟩, fun x => ?_⟩
  · have := hsrt.sublist h1
    rw [List.pairwise_map] at this ⊢
    exact this
  · intro z hz
    obtain ⟨r, hr, rfl⟩ := List.mem_map.1 hz
    exact h2 r hr
  · rw [h3]
    constructor
    · rintro ⟨a, -, c⟩; exact ⟨a, c⟩
    · rintro ⟨a, c⟩
      refine ⟨a, ?_, c⟩
      obtain ⟨z, hz, -, e⟩ := prs_mem a
      rw [hS, e]
      exact (sortT_perm _).mem_iff.2 (List.mem_map_of_mem hz)
theorem names_bad {l : List Zn} (hc : checkZ l ≠ 0) : namesZ l = [] := by unfold namesZ; rw [if_pos hc]
theorem names_ok {l : List Zn} (hc : checkZ l = 0) : (namesZ l).length ≤ 64 ∧ ∀ s ∈ namesZ l, s ≠ ByteArray.empty ∧ s.size ≤ maxLen := by
  have hS : namesZ l = sortT (l.map (·.1)) := by unfold namesZ; rw [if_neg (not_not_intro hc)]
  obtain ⟨h1, h2, -, -⟩ := checkZ_ok hc
  rw [hS]
  refine ⟨by rw [sortT_len, List.length_map]; exact h1, fun s hs => ?_⟩
  obtain ⟨z, hz, rfl⟩ := List.mem_map.1 ((sortT_perm _).mem_iff.1 hs)
  have h := (h2 z hz).1
  have hp := isName_pos h
  unfold isName at h
  rw [Bool.and_eq_true, Bool.and_eq_true, decide_eq_true_eq] at h
  refine ⟨fun e => ?_, by unfold maxLen; omega⟩
  rw [e] at hp
  exact absurd hp (by decide)

set_option maxRecDepth 100000 in
set_option maxHeartbeats 12800000 in
theorem rmin_calls (v : Value) (l : List Zn) (w : World) (h : ZnsAt w v l) :
    Calls Try.prog 41 #[v] w (MinTo l w) := by
  have hh := h
  have HI := Lib.hid (rnames_calls v l w h)
  have HPf := Lib.hid (fun w1 (hb : Below w.heap.size w w1) hc nm hn => rprefs_calls v l nm w1 (h.below hb) hc hn)
  obtain ⟨av, cap, rfl, -, -, -⟩ := h
  go_enter Try.func41, Try.ntmps41
  go_wp2_with fail
  refine HI.out.mono ?_
  rintro e w1 ⟨vS, rfl, hS, hb1⟩
  by_cases hc : checkZ l = 0
  · obtain ⟨hl64, hok⟩ := names_ok hc
    have HPf := Lib.hid (fun w1 (hb : Below w.heap.size w w1) nm hn => HPf.out w1 hb hc nm hn)
    have HE := Lib.hid (fun R (h : Raw2 l (namesZ l) R) => raw2_end hc h)
    generalize namesZ l = S at *
    have Hok := Lib.hid hok
    have HS := Lib.hid hS
    have hS0 := hS
    obtain ⟨aS, cS, rfl, hlS, hmS, -⟩ := hS0
    have hmS := hmS.1
    have Hsz := Lib.hid (fun N (h : ∀ x ∈ prs l, x ∈ prs l) nm (hp : PrefOf (prs l) nm (prs l) N) => prefOf_size hc h hp)
    unfold maxLen at hmS
    clear hok hS hc
    go_wp2_with fail
    go_loopw [3, 5] (fun vo i wr => ∃ k : Nat, k ≤ S.length ∧ i = .int .i64 k ∧ ∃ R : List Zr, wr.ownsRow w1.heap.size 62 2 vo R.length (R.flatMap zrCells) ∧ RdZ wr vo.ownBlock R ∧ Raw2 l (S.take k) R ∧ Below w1.heap.size w1 wr) (fun _ i _ => S.length - (intOf i).toNat)
    case atStart => exact ⟨0, Nat.zero_le _, rfl, [], ⟨rfl, Or.inl ⟨rfl, rfl⟩⟩, fun r hr => (by cases hr), ⟨Nat.le_refl _, by simp, fun r hr => (by cases hr), fun x => by simp [prs]⟩, Below.refl _ _⟩
    case round =>
      obtain ⟨k, hk, rfl, R, hown, hrd, hraw, hb⟩ := hrel
      have Hb := Lib.hid hb
      have Hown := Lib.hid hown
      have Hrd := Lib.hid hrd
      have Hraw := Lib.hid hraw
      have hR64 : R.length ≤ k := by have := hraw.1; rw [List.length_take] at this; omega
      obtain ⟨ao, co, rfl, hco, hcm⟩ := own_shape hown
      clear hown hrd hraw
      by_cases hlt : k < S.length
      · have HTk := Lib.hid (show S.take (k + 1) = S.take k ++ [S[k]] from List.take_succ_eq_append_getElem hlt)
        obtain ⟨av2, cap2, e2, -, -, hx⟩ := HS.out.below hb
        cases e2
        obtain ⟨bz, o, rfl, hB, hx⟩ := hx (by rintro rfl; cases hlt)
        obtain ⟨c0, s0⟩ := hx k hlt
        rw [Nat.mul_one] at c0
        have hk0 : (0 : Int) ≤ (k : Int) := Int.natCast_nonneg _
        have hk1 : (k : Int) < (S.length : Int) := by omega
        have hnm := (Hok.out S[k] (List.getElem_mem hlt)).1
        clear hx
        generalize S[k] = nm at *
        have Hsk := Lib.hid (fun hn => raw2_skip (nm := nm) Hraw.out hn)
        have Hmo := Lib.hid (fun r hr hn => raw2_more Hraw.out r hr hn)
        have HP := Lib.hid (HPf.out wr (hb1.trans (hb.mono hb1.size)) nm hnm)
        clear hnm
        go_wp2_with fail
        refine HP.out.mono ?_
        rintro e w5 ⟨v5, N, rfl, hown5, hpo, hN4, hb5⟩
        have Hpo := Lib.hid hpo
        have Hown5 := Lib.hid hown5
        have Hb5 := Lib.hid hb5
        obtain ⟨a5, c5, rfl, hc5, hm5⟩ := own_shape hown5
        clear hpo hown5
        by_cases hN0 : N.length = 0
        · have hgt : ¬ (0 : Int) < (N.length : Int) := by omega
          have hNn : N = [] := List.length_eq_zero_iff.1 hN0
          have hpo := Hpo.out
          rw [hNn] at hpo
          have HR := Lib.hid (Hsk.out hpo)
          rw [← HTk.out] at HR
          clear hN0 hNn hpo
          go_wp2
          exact ⟨⟨k + 1, by omega, by go_num, R, ownsRow_below Hown.out Hb5.out, Hrd.out.below Hb5.out, HR.out, Hb.out.trans (Hb5.out.mono Hb.out.size)⟩, by simp [intOf]; omega⟩
        · have hgt : (0 : Int) < (N.length : Int) := by omega
          have hN0' : 0 < N.length := by omega
          have hbs := hb.size
          have hbs5 := hb5.size
          have c5' := (hb5.cell (p := ⟨bz, _, none⟩) hB).trans c0
          have hB5 : bz < w5.heap.size := Nat.lt_of_lt_of_le hB hbs5
          have Ho5 := Lib.hid (ownsRow_below Hown.out Hb5.out)
          obtain ⟨i0, hi, hz0, hz1, hz2⟩ := info_parts Try.zoneInfo
          have Hi := Lib.hid (And.intro hi (And.intro hz0 (And.intro hz1 hz2)))
          clear hi hz0 hz1 hz2 hN0 c0
          go_wp2_with (at_builtin; refine wpList_append_lies _ rfl _ _ 49 rfl w1.heap.size 62 i0 _ 2 40 Try.underlying49 Hi.out.1 Hi.out.2.1 Hi.out.2.2.1 Hi.out.2.2.2 rfl (by decide) _ _ _ rfl (Ho5.out.alloc _) ⟨w5.heap.size, 0, none⟩ 1 1 [.string nm, .slice a5 N.length c5] rfl rfl (World.news_of_block (cs := #[.string nm, .slice a5 N.length c5]) (t := 62) (fr := (0, 0)) (heap_alloc_new _ _)) ?bq2 (by decide) ?bq3 ?bq4 ?bq5 _ rfl ?_)
          case bq2 => simp [Value.oneCell']
          case bq3 => unfold maxLen; omega
          case bq4 => omega
          case bq5 => (try simp); omega
          intro gg capg w6 hown6 hgrow6 hat6 hlt6
          have Hown6 := Lib.hid hown6
          have Hgr6 := Lib.hid hgrow6
          have Hat6 := Lib.hid hat6
          clear hown6 hgrow6 hat6 c5'
          have HR := Lib.hid (Hmo.out (nm, (a5, N.length, c5), N) (fun e => by have e2 : N = [] := e; rw [e2] at hN0'; simp at hN0') Hpo.out)
          have HR := Lib.hid (show Raw2 l (S.take (k + 1)) (R ++ [(nm, (a5, N.length, c5), N)]) by rw [HTk.out]; exact HR.out)
          have Hbk := Lib.hid (fun k e => ownsRow_block Ho5.out k e)
          have Hbo := Lib.hid (fun k e => ownsRow_block Hown.out k e)
          have Hb5k := Lib.hid (fun k e => ownsRow_block Hown5.out k e)
          have Hw6 := Lib.hid (((Below.refl w5.heap.size w5).alloc (Nat.le_refl _) (Obj.cells #[.string nm, .slice a5 N.length c5] 62)))
          have hb6 := Lib.hid (((Hb.out.trans (Hb5.out.mono hbs)).alloc (by omega) (Obj.cells #[.string nm, .slice a5 N.length c5] 62)).grown Hgr6.out (by simp; omega) (fun k e => (Hbk.out k e).1))
          have HRd := Lib.hid (((Hrd.out.below Hb5.out).below Hw6.out).grown Hgr6.out)
          have HSt := Lib.hid (show StrsAt w6 (.slice a5 N.length c5) N from by
            have h2 := strsAt_own Hown5.out (Hsz.out N (fun x hx => hx) nm Hpo.out)
            exact strs_keep (h2.below Hw6.out) Hgr6.out.size fun g' hlt e => Hgr6.out.block g' hlt fun e2 => by
              have h5 := (Hb5k.out g' e).1
              have h6 := (Hbo.out g' e2.symm).2
              omega)
          go_wp2
          refine ⟨⟨k + 1, by omega, by go_num, R ++ [(nm, (a5, N.length, c5), N)], ?_, ?_, HR.out, hb6.out⟩, by simp [intOf]; omega⟩
          · rw [List.length_append, List.flatMap_append]
            exact Hown6.out
          · have hH : (w5.alloc (Obj.cells #[.string nm, .slice a5 N.length c5] 62)).heap.size = w5.heap.size + 1 := by simp
            intro r hr
            rcases List.mem_append.1 hr with hr | hr
            · obtain ⟨q1, q2, q3⟩ := HRd.out r hr
              refine ⟨q1, q2, fun g' e => ⟨(q3 g' e).1, fun e2 => ?_⟩⟩
              have e3 : gg = g' := Option.some.inj e2
              have hlt := ((Hrd.out r hr).2.2 g' e).1
              rcases Hat6.out with h | h
              · exact (q3 g' e).2 (by rw [h, e3])
              · have h2 : gg = w5.heap.size + 1 := by first | exact h | exact h.trans hH
                omega
            · simp only [List.mem_singleton] at hr
              subst hr
              refine ⟨s0, HSt.out, fun g' e => ?_⟩
              have h5 := Hb5k.out g' e
              refine ⟨by have := Hgr6.out.size; have h4 := hH; omega, fun e2 => ?_⟩
              have e4 : gg = g' := Option.some.inj e2
              rcases Hat6.out with h | h
              · have := (Hbo.out gg h).2; omega
              · have h2 : gg = w5.heap.size + 1 := by first | exact h | exact h.trans hH
                omega
      · have HE2 := Lib.hid (HE.out R (by have := Hraw.out; rwa [List.take_of_length_le (by omega)] at this))
        have HZ := Lib.hid (znsAt_own Hown.out Hrd.out)
        go_wp2
        go_ret
        exact ⟨_, _, rfl, HZ.out, HE2.out, hb1.trans (hb.mono hb1.size)⟩
  · have HN := Lib.hid (fun w' (hb : Below w.heap.size w w') => (minTo_nil hc hb : MinTo l w _ w'))
    rw [names_bad hc] at hS
    obtain ⟨aS, cS, rfl, hlS, hmS, -⟩ := hS
    clear hc
    go_wp2_with fail
    go_loopw [3, 5] (fun vo i wr => vo = .slice none 0 0 ∧ i = .int .i64 0 ∧ wr = w1) (fun _ _ _ => 0)
    case atStart => exact ⟨rfl, rfl, rfl⟩
    case round =>
      obtain ⟨rfl, rfl, rfl⟩ := hrel
      go_wp2
      go_ret
      exact HN.out _ hb1
end Go.Proofs.Ytcfmndhjmlbcoaa
