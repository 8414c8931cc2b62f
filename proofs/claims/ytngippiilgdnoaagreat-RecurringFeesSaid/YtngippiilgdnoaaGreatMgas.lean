/-
  The walks of the value of an event and of an event's form.
-/
import Derived.Test.YtngippiilgdnoaaGreatMgar
namespace Go.Proofs.YtngippiilgdnoaaGreat
open Go.RowKit

/-- Is the value of an event in its range? -/
def ValTo (ev : Ev) (w : World) (e : Ending) (w' : World) : Prop := ∃ b, e = .returned (.bool b) ∧ (b = true → ev.kd = 1 → 1 ≤ ev.vl ∧ ev.vl ≤ 28) ∧ Below w.heap.size w w'
theorem valTo {ev : Ev} {w w' : World} (b : Bool) (h : b = true → ev.kd = 1 → 1 ≤ ev.vl ∧ ev.vl ≤ 28) (hb : Below w.heap.size w w') : ValTo ev w (.returned (.bool b)) w' := ⟨b, rfl, h, hb⟩
theorem val_calls (ev : Ev) (w : World) : Calls Tryz.prog 152 #[evVal ev] w (ValTo ev w) := by
  have HT := Lib.hid (fun b w' => @valTo ev w w' b)
  obtain ⟨tm, kd, ac, sb, nu, nm, vl⟩ := ev
  unfold evVal
  dsimp only at HT ⊢
  by_cases hk : kd = 1
  · subst hk
    by_cases h1 : 1 ≤ vl
    · have k1 : decide (1 ≤ vl) = true := decide_eq_true h1
      by_cases h2 : vl ≤ 28
      · have k2 : decide (vl ≤ 28) = true := decide_eq_true h2
        go_enter Tryz.func152, Tryz.ntmps152
        go_wp2
        go_ret
        exact HT.out _ _ (fun _ _ => ⟨h1, h2⟩) (by go_grown)
      · have k2 : decide (vl ≤ 28) = false := decide_eq_false h2
        go_enter Tryz.func152, Tryz.ntmps152
        go_wp2
        go_ret
        exact HT.out false _ (fun h => by cases h) (by go_grown)
    · have k1 : decide (1 ≤ vl) = false := decide_eq_false h1
      go_enter Tryz.func152, Tryz.ntmps152
      go_wp2
      go_ret
      exact HT.out false _ (fun h => by cases h) (by go_grown)
  · have hkb : (kd == 1) = false := beq_eq_false_iff_ne.2 hk
    have Hk := Lib.hid hk
    clear hk
    go_enter Tryz.func152, Tryz.ntmps152
    go_wp2
    all_goals
      go_ret
      exact HT.out _ _ (fun _ h => absurd h Hk.out) (by go_grown)

/-- What the form of an event says. -/
structure FormOk (last : Int) (e : Ev) : Prop where
  k1 : 1 ≤ e.kd
  k2 : e.kd ≤ 15
  t0 : 0 ≤ e.tm
  t1 : e.tm < 12622780800
  t2 : last ≤ e.tm
  a1 : usesA e.kd = true → 1 ≤ e.ac ∧ e.ac ≤ 9999
  a0 : usesA e.kd = false → e.ac = 0
  s1 : usesS e.kd = true → 1 ≤ e.sb ∧ e.sb ≤ 9999
  s0 : usesS e.kd = false → e.sb = 0
  v1 : e.kd = 1 → 1 ≤ e.vl ∧ e.vl ≤ 28
def FormTo (last : Int) (ev : Ev) (w : World) (e : Ending) (w' : World) : Prop := ∃ r, e = .returned (.int .i64 r) ∧ (r = 0 → FormOk last ev) ∧ Below w.heap.size w w'
theorem form_no {last : Int} {ev : Ev} {w w' : World} {r : Int} (h : r ≠ 0) (hb : Below w.heap.size w w') : FormTo last ev w (.returned (.int .i64 r)) w' := ⟨r, rfl, fun e => absurd e h, hb⟩
end Go.Proofs.YtngippiilgdnoaaGreat
