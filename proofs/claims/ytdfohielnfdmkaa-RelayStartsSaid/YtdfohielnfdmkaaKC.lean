/- Part KC of the proof: W6 · D3. -/
import Derived.Deep.DeepCutAuto
import Derived.Deep.RegionWith
import Derived.Test.YtdfohielnfdmkaaKB
set_option linter.unusedVariables false
set_option linter.unusedSimpArgs false
/- Walks: whether a wall blocks (package hill). -/
set_option linter.unusedVariables false
set_option linter.unusedSimpArgs false
namespace Go.Proofs.Ytdfohielnfdmkaa
open Go.RowKit
attribute [local go_sem low] cell_alloc_ite frozen_alloc_ite

theorem check_any (V : LV) (L : Lnd) (w : World) (h : RdL w V L) :
    Calls Try.prog 44 #[vLnd V L] w fun r w' => r = .returned (.int .i64 (faultL L)) ∧ Below w.heap.size w w' := by
  cases hl : limL L with
  | true => rw [show faultL L = 3 by simp [faultL, hl]]; exact checkLim_any V L w h hl
  | false => exact checkBad_any V L w h hl

theorem mul_bd {a b : Int} (A B : Nat) (ha : -(A : Int) ≤ a ∧ a ≤ A) (hb : -(B : Int) ≤ b ∧ b ≤ B) : -((A * B : Nat) : Int) ≤ a * b ∧ a * b ≤ ((A * B : Nat) : Int) := by
  have h1 : a.natAbs ≤ A := by omega
  have h2 : b.natAbs ≤ B := by omega
  have h3 : (a * b).natAbs ≤ A * B := by rw [Int.natAbs_mul]; exact Nat.mul_le_mul h1 h2
  omega

def sideI (p0 p1 q0 q1 x0 x1 : Int) : Int := (q0 - p0) * (x1 - p1) - (q1 - p1) * (x0 - p0)
def On (x y : Int) : Prop := 0 ≤ x ∧ x ≤ 100 ∧ 0 ≤ y ∧ y ≤ 100
theorem on_of {x y : Int} (h : onMap x y = true) : On x y := by
  simp only [onMap, Bool.and_eq_true, inR_true] at h; exact ⟨h.1.1, h.1.2, h.2.1, h.2.2⟩
theorem side_bd {p0 p1 q0 q1 x0 x1 : Int} (hp : On p0 p1) (hq : On q0 q1) (hx : On x0 x1) : -20000 ≤ sideI p0 p1 q0 q1 x0 x1 ∧ sideI p0 p1 q0 q1 x0 x1 ≤ 20000 := by
  unfold On at hp hq hx
  have h1 := mul_bd (a := q0 - p0) (b := x1 - p1) 100 100 (by omega) (by omega)
  have h2 := mul_bd (a := q1 - p1) (b := x0 - p0) 100 100 (by omega) (by omega)
  unfold sideI
  simp only [Nat.reduceMul] at h1 h2
  omega
theorem side_on (p0 p1 q0 q1 x0 x1 : Int) (w : World) (hp : On p0 p1) (hq : On q0 q1) (hx : On x0 x1) :
    Calls Try.prog 108 #[.agg #[.int .i64 p0, .int .i64 p1], .agg #[.int .i64 q0, .int .i64 q1], .agg #[.int .i64 x0, .int .i64 x1]] w
      fun e w' => e = .returned (.int .i64 (sideI p0 p1 q0 q1 x0 x1)) ∧ Below w.heap.size w w' := by
  have e : wrap64 (wrap64 (wrap64 (q0 - p0) * wrap64 (x1 - p1)) - wrap64 (wrap64 (q1 - p1) * wrap64 (x0 - p0))) = sideI p0 p1 q0 q1 x0 x1 := by
    unfold On at hp hq hx
    have h1 := mul_bd (a := q0 - p0) (b := x1 - p1) 100 100 (by omega) (by omega)
    have h2 := mul_bd (a := q1 - p1) (b := x0 - p0) 100 100 (by omega) (by omega)
    simp only [Nat.reduceMul] at h1 h2
    rw [IntWalk.wrap64_in (q0 - p0) (by omega), IntWalk.wrap64_in (x1 - p1) (by omega), IntWalk.wrap64_in (q1 - p1) (by omega), IntWalk.wrap64_in (x0 - p0) (by omega)]
    rw [IntWalk.wrap64_in ((q0 - p0) * (x1 - p1)) (by omega), IntWalk.wrap64_in ((q1 - p1) * (x0 - p0)) (by omega)]
    rw [IntWalk.wrap64_in _ (by omega)]; rfl
  rw [← e]
  exact side_any p0 p1 q0 q1 x0 x1 w

set_option maxHeartbeats 400000 in
theorem base_any (x1 y1 x2 y2 b t : Int) (w : World) :
    Calls Try.prog 110 #[.agg #[.int .i64 x1, .int .i64 y1, .int .i64 x2, .int .i64 y2, .int .i64 b, .int .i64 t]] w fun e w' => e = .returned (.int .i64 b) ∧ Below w.heap.size w w' := by
  go_enter Try.func110, Try.ntmps110
  go_wp2
  go_ret
  exact ⟨rfl, by (repeat (first | exact Below.refl _ _ | (with_reducible exact Hid.out (by assumption)) | refine below_al ?_ _ | refine below_dr ?_ | refine below_tr ?_ (by assumption) | refine below_tr ?_ (Bel.out (by assumption)) | refine below_tr ?_ (Bel.out (ov_bel _ _)) | refine below_set ?_ (by simp; try omega)))⟩
set_option maxHeartbeats 400000 in
theorem top_any (x1 y1 x2 y2 b t : Int) (w : World) :
    Calls Try.prog 111 #[.agg #[.int .i64 x1, .int .i64 y1, .int .i64 x2, .int .i64 y2, .int .i64 b, .int .i64 t]] w fun e w' => e = .returned (.int .i64 t) ∧ Below w.heap.size w w' := by
  go_enter Try.func111, Try.ntmps111
  go_wp2
  go_ret
  exact ⟨rfl, by (repeat (first | exact Below.refl _ _ | (with_reducible exact Hid.out (by assumption)) | refine below_al ?_ _ | refine below_dr ?_ | refine below_tr ?_ (by assumption) | refine below_tr ?_ (Bel.out (by assumption)) | refine below_tr ?_ (Bel.out (ov_bel _ _)) | refine below_set ?_ (by simp; try omega)))⟩

def absI (n : Int) : Int := if n ≤ 0 then -n else n
set_option maxHeartbeats 400000 in
theorem abs_any (n : Int) (w : World) (h : -20000 ≤ n ∧ n ≤ 20000) :
    Calls Try.prog 109 #[.int .i64 n] w fun e w' => e = .returned (.int .i64 (absI n)) ∧ Below w.heap.size w w' := by
  obtain ⟨h1, h2⟩ := h
  go_enter Try.func109, Try.ntmps109
  go_wp2
  all_goals
    go_ret
    refine ⟨congrArg (fun z => Ending.returned (.int .i64 z)) ?_, Below.refl _ _⟩
    unfold absI
    split <;> omega

def aboveI (z zt far other h : Int) : Int := z * other + zt * far - h * (far + other)
theorem above_bd {z zt far other h : Int} (hz : 0 ≤ z ∧ z ≤ 1000) (hzt : 0 ≤ zt ∧ zt ≤ 1000) (hf : 0 ≤ far ∧ far ≤ 20000) (ho : 0 ≤ other ∧ other ≤ 20000) (hh : 0 ≤ h ∧ h ≤ 1000) :
    (-20000000 ≤ z * other ∧ z * other ≤ 20000000) ∧ (-20000000 ≤ zt * far ∧ zt * far ≤ 20000000) ∧ (-40000000 ≤ h * (far + other) ∧ h * (far + other) ≤ 40000000) := by
  have h1 := mul_bd (a := z) (b := other) 1000 20000 (by omega) (by omega)
  have h2 := mul_bd (a := zt) (b := far) 1000 20000 (by omega) (by omega)
  have h3 := mul_bd (a := h) (b := far + other) 1000 40000 (by omega) (by omega)
  simp only [Nat.reduceMul] at h1 h2 h3
  omega
set_option maxHeartbeats 1000000 in
theorem aboveBase_any (x1 y1 x2 y2 b t ax ay az am bx yb bz bm far other : Int) (w : World) (hz : 0 ≤ az ∧ az ≤ 1000) (hzt : 0 ≤ bz ∧ bz ≤ 1000) (hf : 0 ≤ far ∧ far ≤ 20000) (ho : 0 ≤ other ∧ other ≤ 20000) (hh : 0 ≤ b ∧ b ≤ 1000) :
    Calls Try.prog 112 #[.agg #[.func (.func 110) #[] #[]], .agg #[.int .i64 x1, .int .i64 y1, .int .i64 x2, .int .i64 y2, .int .i64 b, .int .i64 t], .agg #[.int .i64 ax, .int .i64 ay, .int .i64 az, .int .i64 am],
        .agg #[.int .i64 bx, .int .i64 yb, .int .i64 bz, .int .i64 bm], .int .i64 far, .int .i64 other] w
      fun e w' => e = .returned (.int .i64 (aboveI az bz far other b)) ∧ Below w.heap.size w w' := by
  obtain ⟨q1, q2, q3⟩ := above_bd hz hzt hf ho hh
  go_enter Try.func112, Try.ntmps112
  go_wp2
  (refine wp_region_bel (by kernel_rfl) (by kernel_rfl) ?_; (repeat (first | (refine BigFrame.wpQuiet_want (by rfl) (fun K hK => ?_); unfold Oper.quiet; apply Exists.intro; refine ⟨fun W hW => ?_, hK _ ?_⟩; (focus (have hc := hW.cells; have hf := hW.frozens; have hz := hW.size; (try simp at hz); (go_simp; (repeat (simp only [↓IntWalk.iteOmega]; go_simp)); (try go_bits); first | ((go_at_call 110; exact calls_bel hW (base_any _ _ _ _ _ _ _))) | rfl))); clear hK K; go_simp) | (refine BigFrame.wpQuiet_skip (by rfl) ?_; go_simp))); refine wpQuiet_nil ?_; intro W hW; have hc := hW.cells; have hf := hW.frozens; have hz := hW.size; (try simp at hz))
  go_wp2
  go_ret
  exact ⟨rfl, by (repeat (first | exact Below.refl _ _ | (with_reducible exact Hid.out (by assumption)) | refine below_al ?_ _ | refine below_dr ?_ | refine below_tr ?_ (by assumption) | refine below_tr ?_ (Bel.out (by assumption)) | refine below_tr ?_ (Bel.out (ov_bel _ _)) | refine below_set ?_ (by simp; try omega)))⟩
set_option maxHeartbeats 1000000 in
theorem aboveTop_any (x1 y1 x2 y2 b t ax ay az am bx yb bz bm far other : Int) (w : World) (hz : 0 ≤ az ∧ az ≤ 1000) (hzt : 0 ≤ bz ∧ bz ≤ 1000) (hf : 0 ≤ far ∧ far ≤ 20000) (ho : 0 ≤ other ∧ other ≤ 20000) (hh : 0 ≤ t ∧ t ≤ 1000) :
    Calls Try.prog 112 #[.agg #[.func (.func 111) #[] #[]], .agg #[.int .i64 x1, .int .i64 y1, .int .i64 x2, .int .i64 y2, .int .i64 b, .int .i64 t], .agg #[.int .i64 ax, .int .i64 ay, .int .i64 az, .int .i64 am],
        .agg #[.int .i64 bx, .int .i64 yb, .int .i64 bz, .int .i64 bm], .int .i64 far, .int .i64 other] w
      fun e w' => e = .returned (.int .i64 (aboveI az bz far other t)) ∧ Below w.heap.size w w' := by
  obtain ⟨q1, q2, q3⟩ := above_bd hz hzt hf ho hh
  go_enter Try.func112, Try.ntmps112
  go_wp2
  (refine wp_region_bel (by kernel_rfl) (by kernel_rfl) ?_; (repeat (first | (refine BigFrame.wpQuiet_want (by rfl) (fun K hK => ?_); unfold Oper.quiet; apply Exists.intro; refine ⟨fun W hW => ?_, hK _ ?_⟩; (focus (have hc := hW.cells; have hf := hW.frozens; have hz := hW.size; (try simp at hz); (go_simp; (repeat (simp only [↓IntWalk.iteOmega]; go_simp)); (try go_bits); first | ((go_at_call 111; exact calls_bel hW (top_any _ _ _ _ _ _ _))) | rfl))); clear hK K; go_simp) | (refine BigFrame.wpQuiet_skip (by rfl) ?_; go_simp))); refine wpQuiet_nil ?_; intro W hW; have hc := hW.cells; have hf := hW.frozens; have hz := hW.size; (try simp at hz))
  go_wp2
  go_ret
  exact ⟨rfl, by (repeat (first | exact Below.refl _ _ | (with_reducible exact Hid.out (by assumption)) | refine below_al ?_ _ | refine below_dr ?_ | refine below_tr ?_ (by assumption) | refine below_tr ?_ (Bel.out (by assumption)) | refine below_tr ?_ (Bel.out (ov_bel _ _)) | refine below_set ?_ (by simp; try omega)))⟩
end Go.Proofs.Ytdfohielnfdmkaa

/- More words: blocks of a few cells. -/
namespace Go.Proofs.Ytdfohielnfdmkaa
open Go.RowKit
/-- The cells of block b, from its head on. -/
def CellsAt (w : World) (b : Nat) (vs : List Value) : Prop := ∀ (j : Nat) (v : Value), vs[j]? = some v → w.cell? ⟨b, j, none⟩ = some v
theorem CellsAt.kept {w w' : World} {b : Nat} {vs : List Value} (h : CellsAt w b vs) (hk : Kept w w') : CellsAt w' b vs := fun j v hv => hk _ _ (h j v hv)
theorem cells1 {w : World} {b : Nat} {v0 : Value} (h0 : w.cell? ⟨b, 0, none⟩ = some v0) : CellsAt w b [v0] := by
  intro j v hv
  match j, hv with
  | 0, hv => cases hv; exact h0
theorem cells2 {w : World} {b : Nat} {v0 v1 : Value} (h0 : w.cell? ⟨b, 0, none⟩ = some v0) (h1 : w.cell? ⟨b, 1, none⟩ = some v1) : CellsAt w b [v0, v1] := by
  intro j v hv
  match j, hv with
  | 0, hv => cases hv; exact h0
  | 1, hv => cases hv; exact h1
theorem cells3 {w : World} {b : Nat} {v0 v1 v2 : Value} (h0 : w.cell? ⟨b, 0, none⟩ = some v0) (h1 : w.cell? ⟨b, 1, none⟩ = some v1) (h2 : w.cell? ⟨b, 2, none⟩ = some v2) : CellsAt w b [v0, v1, v2] := by
  intro j v hv
  match j, hv with
  | 0, hv => cases hv; exact h0
  | 1, hv => cases hv; exact h1
  | 2, hv => cases hv; exact h2
theorem cells4 {w : World} {b : Nat} {v0 v1 v2 v3 : Value} (h0 : w.cell? ⟨b, 0, none⟩ = some v0) (h1 : w.cell? ⟨b, 1, none⟩ = some v1) (h2 : w.cell? ⟨b, 2, none⟩ = some v2) (h3 : w.cell? ⟨b, 3, none⟩ = some v3) : CellsAt w b [v0, v1, v2, v3] := by
  intro j v hv
  match j, hv with
  | 0, hv => cases hv; exact h0
  | 1, hv => cases hv; exact h1
  | 2, hv => cases hv; exact h2
  | 3, hv => cases hv; exact h3
theorem cells6 {w : World} {b : Nat} {v0 v1 v2 v3 v4 v5 : Value} (h0 : w.cell? ⟨b, 0, none⟩ = some v0) (h1 : w.cell? ⟨b, 1, none⟩ = some v1) (h2 : w.cell? ⟨b, 2, none⟩ = some v2) (h3 : w.cell? ⟨b, 3, none⟩ = some v3)
    (h4 : w.cell? ⟨b, 4, none⟩ = some v4) (h5 : w.cell? ⟨b, 5, none⟩ = some v5) : CellsAt w b [v0, v1, v2, v3, v4, v5] := by
  intro j v hv
  match j, hv with
  | 0, hv => cases hv; exact h0
  | 1, hv => cases hv; exact h1
  | 2, hv => cases hv; exact h2
  | 3, hv => cases hv; exact h3
  | 4, hv => cases hv; exact h4
  | 5, hv => cases hv; exact h5
end Go.Proofs.Ytdfohielnfdmkaa

