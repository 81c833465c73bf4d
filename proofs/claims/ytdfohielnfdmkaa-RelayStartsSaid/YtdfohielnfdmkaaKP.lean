/- Part KP of the proof: X1 · X2 · X3 · Z1 · X4. -/
import Derived.Deep.RegionLaw
import Derived.Test.YtdfohielnfdmkaaKB
import Derived.Test.YtdfohielnfdmkaaKE
import Derived.Test.YtdfohielnfdmkaaKF
set_option linter.unusedVariables false
set_option linter.unusedSimpArgs false
/- Walks: helpers of the laws: the chapter's land. -/
set_option linter.unusedVariables false
set_option linter.unusedSimpArgs false
namespace Go.Proofs.Ytdfohielnfdmkaa
open Go.RowKit
attribute [local go_sem low] cell_alloc_ite frozen_alloc_ite

/-- The chapter's land, with some of its suns. -/
def three (n : Nat) : Lnd := ⟨[⟨10, 10, 100, 1⟩, ⟨30, 10, 200, 1⟩, ⟨10, 30, 50, 2⟩], [⟨20, 5, 20, 15, 0, 149⟩], [[], [⟨⟨5, 20, 25, 20, 0, 80⟩, 1, 2⟩]], ([⟨50, 0, 0⟩, ⟨50, 0, 20⟩, ⟨-50, 0, 30⟩, ⟨50, 0, 5⟩] : List Sun).take n⟩
/-- A land of the call's own. -/
def LandMade (L : Lnd) (w : World) (e : Ending) (w' : World) : Prop := ∃ V, e = .returned (vLnd V L) ∧ RdL w' V L ∧ Below w.heap.size w w'

theorem row_cells {α : Type} {w : World} {b k : Nat} {enc : α → List Value} {xs : List α} (hk : ∀ x, (enc x).length = k) (h : CellsAt w b (xs.flatMap enc)) : RowAt w (some ⟨b, 0, none⟩) k enc xs := by
  intro i x hx
  refine ⟨b, 0, rfl, fun j v hv => ?_⟩
  rw [Nat.zero_add]
  exact h _ _ (flat_at enc k hk xs i x j v hx hv)
theorem three_rdl {w : World} {b1 b2 b3 b4 b5 n : Nat} (hn : n ≤ 4) (h1 : CellsAt w b1 [.int .i64 10, .int .i64 10, .int .i64 100, .int .i64 1, .int .i64 30, .int .i64 10, .int .i64 200, .int .i64 1, .int .i64 10, .int .i64 30, .int .i64 50, .int .i64 2]) (h2 : CellsAt w b2 [.int .i64 20, .int .i64 5, .int .i64 20, .int .i64 15, .int .i64 0, .int .i64 149]) (h3 : CellsAt w b3 [.int .i64 5, .int .i64 20, .int .i64 25, .int .i64 20, .int .i64 0, .int .i64 80, .int .i64 1, .int .i64 2]) (h4 : CellsAt w b4 [.slice none 0 0, .slice (some ⟨b3, 0, none⟩) 1 1]) (h5 : CellsAt w b5 [.int .i64 50, .int .i64 0, .int .i64 0, .int .i64 50, .int .i64 0, .int .i64 20, .int .i64 (-50), .int .i64 0, .int .i64 30, .int .i64 50, .int .i64 0, .int .i64 5]) :
    RdL w ⟨some ⟨b1, 0, none⟩, 3, some ⟨b2, 0, none⟩, 1, some ⟨b4, 0, none⟩, 2, some ⟨b5, 0, none⟩, 4⟩ (three n) := by
  refine ⟨row_cells (fun _ => rfl) h1, row_cells (fun _ => rfl) h2, ?_, (row_cells (k := 3) (enc := encSun) (xs := [⟨50, 0, 0⟩, ⟨50, 0, 20⟩, ⟨-50, 0, 30⟩, ⟨50, 0, 5⟩]) (fun _ => rfl) h5).take n, ?_, ?_, ?_, ?_, ?_, ?_, ?_, ?_⟩
  · intro i l hl
    match i, hl with
    | 0, hl => cases hl; exact ⟨b4, 0, none, 0, rfl, h4 0 _ rfl, Nat.le_refl _, by simp, RowAt.nil _ _ _ _⟩
    | 1, hl => cases hl; exact ⟨b4, 0, some ⟨b3, 0, none⟩, 1, rfl, h4 1 _ rfl, Nat.le_refl _, by simp, row_cells (fun _ => rfl) h3⟩
  all_goals simp [three]
  all_goals omega

set_option maxRecDepth 100000 in
set_option maxHeartbeats 4000000 in
theorem lthree_any (n : Nat) (hn : n = 3 ∨ n = 4) (w : World) :
    Calls Try.prog 19 #[.int .i64 n] w (LandMade (three n) w) := by
  rcases hn with rfl | rfl
  all_goals
    go_enter Try.func19, Try.ntmps19
    go_wp2
    refine bodyPost_ret (v := .agg #[.slice (some ⟨w.heap.size + 1, 0, none⟩) 3 3, .slice (some ⟨w.heap.size + 1 + 1, 0, none⟩) 1 1, .slice (some ⟨w.heap.size + 1 + 1 + 1 + 1, 0, none⟩) 2 2, .slice (some ⟨w.heap.size + 1 + 1 + 1 + 1 + 1, 0, none⟩) _ 4]) (by simp [results, Try.results19, go_sem]; rfl) rfl ?_
    generalize hW : World.alloc (World.alloc (World.alloc (World.alloc (World.alloc (World.alloc w _) _) _) _) _) _ = W
    have hb : Below w.heap.size w W := by subst hW; (repeat (first | exact Below.refl _ _ | (with_reducible exact Hid.out (by assumption)) | refine below_al ?_ _ | refine below_dr ?_ | refine below_tr ?_ (by assumption) | refine below_tr ?_ (Bel.out (by assumption)) | refine below_tr ?_ (Bel.out (ov_bel _ _)) | refine below_set ?_ (by simp; try omega)))
    have h1 : CellsAt W (w.heap.size + 1) [.int .i64 10, .int .i64 10, .int .i64 100, .int .i64 1, .int .i64 30, .int .i64 10, .int .i64 200, .int .i64 1, .int .i64 10, .int .i64 30, .int .i64 50, .int .i64 2] := by
      intro i v hv
      match i, hv with
      | 0, hv => cases hv; subst hW; exact (by (try go_simp); (repeat (simp only [↓IntWalk.iteOmega]; (try go_simp))); (try omega))
      | 1, hv => cases hv; subst hW; exact (by (try go_simp); (repeat (simp only [↓IntWalk.iteOmega]; (try go_simp))); (try omega))
      | 2, hv => cases hv; subst hW; exact (by (try go_simp); (repeat (simp only [↓IntWalk.iteOmega]; (try go_simp))); (try omega))
      | 3, hv => cases hv; subst hW; exact (by (try go_simp); (repeat (simp only [↓IntWalk.iteOmega]; (try go_simp))); (try omega))
      | 4, hv => cases hv; subst hW; exact (by (try go_simp); (repeat (simp only [↓IntWalk.iteOmega]; (try go_simp))); (try omega))
      | 5, hv => cases hv; subst hW; exact (by (try go_simp); (repeat (simp only [↓IntWalk.iteOmega]; (try go_simp))); (try omega))
      | 6, hv => cases hv; subst hW; exact (by (try go_simp); (repeat (simp only [↓IntWalk.iteOmega]; (try go_simp))); (try omega))
      | 7, hv => cases hv; subst hW; exact (by (try go_simp); (repeat (simp only [↓IntWalk.iteOmega]; (try go_simp))); (try omega))
      | 8, hv => cases hv; subst hW; exact (by (try go_simp); (repeat (simp only [↓IntWalk.iteOmega]; (try go_simp))); (try omega))
      | 9, hv => cases hv; subst hW; exact (by (try go_simp); (repeat (simp only [↓IntWalk.iteOmega]; (try go_simp))); (try omega))
      | 10, hv => cases hv; subst hW; exact (by (try go_simp); (repeat (simp only [↓IntWalk.iteOmega]; (try go_simp))); (try omega))
      | 11, hv => cases hv; subst hW; exact (by (try go_simp); (repeat (simp only [↓IntWalk.iteOmega]; (try go_simp))); (try omega))
    have h2 : CellsAt W (w.heap.size + 1 + 1) [.int .i64 20, .int .i64 5, .int .i64 20, .int .i64 15, .int .i64 0, .int .i64 149] := by
      intro i v hv
      match i, hv with
      | 0, hv => cases hv; subst hW; exact (by (try go_simp); (repeat (simp only [↓IntWalk.iteOmega]; (try go_simp))); (try omega))
      | 1, hv => cases hv; subst hW; exact (by (try go_simp); (repeat (simp only [↓IntWalk.iteOmega]; (try go_simp))); (try omega))
      | 2, hv => cases hv; subst hW; exact (by (try go_simp); (repeat (simp only [↓IntWalk.iteOmega]; (try go_simp))); (try omega))
      | 3, hv => cases hv; subst hW; exact (by (try go_simp); (repeat (simp only [↓IntWalk.iteOmega]; (try go_simp))); (try omega))
      | 4, hv => cases hv; subst hW; exact (by (try go_simp); (repeat (simp only [↓IntWalk.iteOmega]; (try go_simp))); (try omega))
      | 5, hv => cases hv; subst hW; exact (by (try go_simp); (repeat (simp only [↓IntWalk.iteOmega]; (try go_simp))); (try omega))
    have h3 : CellsAt W (w.heap.size + 1 + 1 + 1) [.int .i64 5, .int .i64 20, .int .i64 25, .int .i64 20, .int .i64 0, .int .i64 80, .int .i64 1, .int .i64 2] := by
      intro i v hv
      match i, hv with
      | 0, hv => cases hv; subst hW; exact (by (try go_simp); (repeat (simp only [↓IntWalk.iteOmega]; (try go_simp))); (try omega))
      | 1, hv => cases hv; subst hW; exact (by (try go_simp); (repeat (simp only [↓IntWalk.iteOmega]; (try go_simp))); (try omega))
      | 2, hv => cases hv; subst hW; exact (by (try go_simp); (repeat (simp only [↓IntWalk.iteOmega]; (try go_simp))); (try omega))
      | 3, hv => cases hv; subst hW; exact (by (try go_simp); (repeat (simp only [↓IntWalk.iteOmega]; (try go_simp))); (try omega))
      | 4, hv => cases hv; subst hW; exact (by (try go_simp); (repeat (simp only [↓IntWalk.iteOmega]; (try go_simp))); (try omega))
      | 5, hv => cases hv; subst hW; exact (by (try go_simp); (repeat (simp only [↓IntWalk.iteOmega]; (try go_simp))); (try omega))
      | 6, hv => cases hv; subst hW; exact (by (try go_simp); (repeat (simp only [↓IntWalk.iteOmega]; (try go_simp))); (try omega))
      | 7, hv => cases hv; subst hW; exact (by (try go_simp); (repeat (simp only [↓IntWalk.iteOmega]; (try go_simp))); (try omega))
    have h4 : CellsAt W (w.heap.size + 1 + 1 + 1 + 1) [.slice none 0 0, .slice (some ⟨w.heap.size + 1 + 1 + 1, 0, none⟩) 1 1] := by
      intro i v hv
      match i, hv with
      | 0, hv => cases hv; subst hW; exact (by (try go_simp); (repeat (simp only [↓IntWalk.iteOmega]; (try go_simp))); (try omega))
      | 1, hv => cases hv; subst hW; exact (by (try go_simp); (repeat (simp only [↓IntWalk.iteOmega]; (try go_simp))); (try omega))
    have h5 : CellsAt W (w.heap.size + 1 + 1 + 1 + 1 + 1) [.int .i64 50, .int .i64 0, .int .i64 0, .int .i64 50, .int .i64 0, .int .i64 20, .int .i64 (-50), .int .i64 0, .int .i64 30, .int .i64 50, .int .i64 0, .int .i64 5] := by
      intro i v hv
      match i, hv with
      | 0, hv => cases hv; subst hW; exact (by (try go_simp); (repeat (simp only [↓IntWalk.iteOmega]; (try go_simp))); (try omega))
      | 1, hv => cases hv; subst hW; exact (by (try go_simp); (repeat (simp only [↓IntWalk.iteOmega]; (try go_simp))); (try omega))
      | 2, hv => cases hv; subst hW; exact (by (try go_simp); (repeat (simp only [↓IntWalk.iteOmega]; (try go_simp))); (try omega))
      | 3, hv => cases hv; subst hW; exact (by (try go_simp); (repeat (simp only [↓IntWalk.iteOmega]; (try go_simp))); (try omega))
      | 4, hv => cases hv; subst hW; exact (by (try go_simp); (repeat (simp only [↓IntWalk.iteOmega]; (try go_simp))); (try omega))
      | 5, hv => cases hv; subst hW; exact (by (try go_simp); (repeat (simp only [↓IntWalk.iteOmega]; (try go_simp))); (try omega))
      | 6, hv => cases hv; subst hW; exact (by (try go_simp); (repeat (simp only [↓IntWalk.iteOmega]; (try go_simp))); (try omega))
      | 7, hv => cases hv; subst hW; exact (by (try go_simp); (repeat (simp only [↓IntWalk.iteOmega]; (try go_simp))); (try omega))
      | 8, hv => cases hv; subst hW; exact (by (try go_simp); (repeat (simp only [↓IntWalk.iteOmega]; (try go_simp))); (try omega))
      | 9, hv => cases hv; subst hW; exact (by (try go_simp); (repeat (simp only [↓IntWalk.iteOmega]; (try go_simp))); (try omega))
      | 10, hv => cases hv; subst hW; exact (by (try go_simp); (repeat (simp only [↓IntWalk.iteOmega]; (try go_simp))); (try omega))
      | 11, hv => cases hv; subst hW; exact (by (try go_simp); (repeat (simp only [↓IntWalk.iteOmega]; (try go_simp))); (try omega))
    exact ⟨_, rfl, three_rdl (by omega) h1 h2 h3 h4 h5, hb⟩
end Go.Proofs.Ytdfohielnfdmkaa

/- Walks: helpers of the laws: clouds. -/
set_option linter.unusedVariables false
set_option linter.unusedSimpArgs false
namespace Go.Proofs.Ytdfohielnfdmkaa
open Go.RowKit
attribute [local go_sem low] cell_alloc_ite frozen_alloc_ite ov_cell ov_frozen

theorem xwall_any (x1 y1 x2 y2 b t : Int) (w : World) : Calls Try.prog 29 #[.agg #[.int .i64 x1, .int .i64 y1, .int .i64 x2, .int .i64 y2, .int .i64 b, .int .i64 t]] w fun e w' => e = .returned (.agg #[.int .i64 x1, .int .i64 y1, .int .i64 x2, .int .i64 y2, .int .i64 b, .int .i64 t]) ∧ Below w.heap.size w w' := by
  go_enter Try.func29, Try.ntmps29
  go_wp2
  refine bodyPost_ret (v := .agg #[.int .i64 x1, .int .i64 y1, .int .i64 x2, .int .i64 y2, .int .i64 b, .int .i64 t]) (by simp [results, Try.results29, go_sem]) rfl ?_
  exact ⟨rfl, by (repeat (first | exact Below.refl _ _ | (with_reducible exact Hid.out (by assumption)) | refine below_al ?_ _ | refine below_dr ?_ | refine below_tr ?_ (by assumption) | refine below_tr ?_ (Bel.out (by assumption)) | refine below_tr ?_ (Bel.out (ov_bel _ _)) | refine below_set ?_ (by simp; try omega)))⟩

theorem oper_append_run {F : Fence} {n : Nat} {P : Program} {w : World} {o : Oper} {a : Act} {K : Act → World → Prop} {Q : Exit → Act → World → Prop} (s x : Operand) (t : TypeId)
    (hop : o.op = Op.call { callee := Callee.builtin Builtin.append, args := #[s, x], argTypes := #[t, t] })
    (u v : Value) (hs : a.eval s = u) (hx : a.eval x = v) (v' : Value) (w' : World) (hrun : (Builtin.append_ #[t, t] o.type #[u, v]).run P w = .ok v' w') (hK : K (a.put o.dst v') w') : Oper.wpIn F n P o a w K Q := by
  unfold Oper.wpIn
  refine ⟨?_, ?_⟩
  · simp [Oper.about, hop, resolve, Target.leads, Sem.run_pure]
  · rw [Oper.semAt_plain F _ _ (by rw [hop]; intro c hc'; cases hc')]
    simp [execOp, hop, resolve, invoke, builtin, hs, hx, hrun, Result.andThen]
    exact hK
theorem info_clo : (Try.prog.info? 98).map (fun i => (i.zero, i.size, i.bytes)) = some (some (.agg #[.int .i64 0, .int .i64 0, .int .i64 0, .int .i64 0, .int .i64 0, .int .i64 0, .int .i64 0, .int .i64 0]), 8, 64) := by kernel_rfl

/-- A row of the call's own is handed back. -/
def OwnMade {α : Type} (t : TypeId) (k : Nat) (enc : α → List Value) (xs : List α) (w : World) (e : Ending) (w' : World) : Prop := ∃ v, e = .returned v ∧ w'.ownsRow w.heap.size t k v xs.length (xs.flatMap enc) ∧ Below w.heap.size w w'
set_option maxRecDepth 100000 in
set_option maxHeartbeats 4000000 in
theorem lclouds_any (A : Option Addr) (c : Nat) (xs : List Clo) (w : World) (hx : RowAt w A 8 encClo xs) (lx : xs.length ≤ 7) :
    Calls Try.prog 30 #[.slice A xs.length c] w (OwnMade 98 8 encClo xs w) := by
  have HX := Lib.hid hx
  have HW := Lib.hid (fun x1 y1 x2 y2 b t W => xwall_any x1 y1 x2 y2 b t W)
  clear hx
  obtain ⟨i0, hi0, hz0, hz1, hz2⟩ := info_parts info_clo
  go_enter Try.func30, Try.ntmps30
  go_wp2
  go_loopw [4, 3] (fun n v wr => ∃ m : Nat, m ≤ xs.length ∧ n = .int .i64 m ∧ wr.ownsRow w.heap.size 98 8 v (xs.take m).length ((xs.take m).flatMap encClo) ∧ Below w.heap.size w wr) (fun n _ _ => xs.length - (intOf n).toNat)
  case atStart => exact ⟨0, Nat.zero_le _, rfl, World.ownsRow_nil _ _ _ _, Below.refl _ _⟩
  case round =>
    obtain ⟨m, hm, rfl, hown, hbr⟩ := hrel
    by_cases hlt : m < xs.length
    · have hx := List.getElem?_eq_getElem hlt
      obtain ⟨b, o, hA, e0, e1, e2, e3, e4, e5, e6, e7⟩ := (HX.out.kept (kept_of_below hbr)).clo hx
      have HXx := Lib.hid hx
      have hl := cell_lt e0
      generalize xs[m] = x at *
      simp only at hA hl
      subst hA
      obtain ⟨⟨x1, y1, x2, y2, xb, xt⟩, xf, xu⟩ := x
      simp only at e0 e1 e2 e3 e4 e5 e6 e7
      replace hbr := Lib.hid hbr
      clear hx
      have hown0 := Lib.hid hown
      clear hown
      go_wp2
      refine (wpIn_wide (n := 9)).1 ?_
      refine wpIn_region_any (by kernel_rfl) ?_
      refine wpAnyIn_take (i := 0) (v := u3) rfl rfl (by kernel_rfl) (by kernel_rfl) (by kernel_rfl) (fun _ _ _ h => h) ⟨Or.inl ⟨by rfl, fun w => by go_simp⟩, fun _ => rfl⟩ ?_
      go_simp
      obtain ⟨Wo, hWo⟩ : ∃ Wo : World, Wo = wr := ⟨_, rfl⟩
      (refine wpAnyIn_midQ 1 18 3 (fun _ => trivial) rfl (fun _ _ _ _ h => callsIn_wide.2 h) (by kernel_rfl) (by rfl) rfl (by omega) (by kernel_rfl) (by kernel_rfl) (by kernel_rfl) (by kernel_rfl) (fun R hR => ?_); simp only [List.take_succ_cons, List.take_zero, List.drop_succ_cons, List.drop_zero]; (repeat (go_big_quiet_step ((go_at_call 29; (with_reducible exact calls_ov (HW.out _ _ _ _ _ _ _)))))); refine wpQuiet_nil ?_; refine hR.out _ ?_; clear hR R; intro W hW kk; have hc := hW.cells; have hf := hW.frozens; have hz := hW.size; (try simp at hz))
      have hbW : Below w.heap.size w W := below_tr (below_dr hbr.out) hW
      have hownW := owns_below (w := wr.drew) hown0.out hW
      have hln : (xs.take m).length = m := by rw [List.length_take]; omega
      have hsz := hbW.size
      have hlo := hownW.lt
      have hct : Hid (xs.take (m + 1) = xs.take m ++ [⟨⟨x1, y1, x2, y2, xb, xt⟩, xf, xu⟩]) := Lib.hid (by rw [List.take_succ_eq_append_getElem hlt]; rw [List.getElem?_eq_getElem hlt] at HXx; rw [Option.some.inj HXx.out])
      obtain ⟨v', w4, hrun, hown4, hgrow, _⟩ := run_append_own (P := Try.prog) (W.alloc (.cells #[.int .i64 x1, .int .i64 y1, .int .i64 x2, .int .i64 y2, .int .i64 xb, .int .i64 xt, .int .i64 xf, .int .i64 xu] 98)) w.heap.size 80 80 98 i0 _ 8 64 Try.underlying80 hi0 hz0 hz1 hz2 rfl (by omega) _ _ _ (hownW.alloc _) ⟨W.heap.size, 0, none⟩ 1 1 (encClo ⟨⟨x1, y1, x2, y2, xb, xt⟩, xf, xu⟩) rfl
        (fun j u hj => by
          rw [show (⟨W.heap.size, 0, none⟩ : Addr).add j = ⟨W.heap.size, j, none⟩ by unfold Addr.add; split <;> simp_all]
          rw [World.cell?_alloc_at (w := W) _ _ _ _ rfl, ← Array.getElem?_toList]; exact hj)
        (fun u hu => by simp [encClo] at hu; rcases hu with rfl | rfl | rfl | rfl | rfl | rfl | rfl | rfl <;> rfl) (by unfold maxLen; omega) (by omega) (by simp; omega)
      have hB4 : Below w.heap.size w w4 := Below.grown (w := W.alloc (.cells #[.int .i64 x1, .int .i64 y1, .int .i64 x2, .int .i64 y2, .int .i64 xb, .int .i64 xt, .int .i64 xf, .int .i64 xu] 98)) (hbW.alloc hsz _) hgrow (by simp; omega) (fun k hk => (hlo k hk).1)
      replace hB4 := Lib.hid hB4
      replace hrun := Lib.hid hrun
      have hown5 : Hid (w4.ownsRow w.heap.size 98 8 v' (xs.take (m + 1)).length ((xs.take (m + 1)).flatMap encClo)) := Lib.hid (by rw [hct.out, List.length_append, List.flatMap_append]; exact hown4)
      clear hgrow hown4 hlo hownW hbW hW hown0 hc hf hct
      (refine wpAnyIn_wantW (i := 18) (by kernel_rfl) rfl (by kernel_rfl) (fun K hK => ?_); go_simp; (repeat (simp only [↓IntWalk.iteOmega]; (try go_simp))); (try go_bits); try (refine hK _ _ ?_; clear hK K))
      refine wpAnyIn_wantW (i := 19) (by kernel_rfl) rfl (by kernel_rfl) (fun K hK => ?_)
      refine oper_append_run (.tmp 11) (.tmp 29) 80 rfl _ _ rfl rfl _ _ hrun.out ?_
      refine hK _ _ ?_; clear hK K
      (refine wpAnyIn_wantW (i := 20) (by kernel_rfl) rfl (by kernel_rfl) (fun K hK => ?_); go_simp; (repeat (simp only [↓IntWalk.iteOmega]; (try go_simp))); (try go_bits); try (refine hK _ _ ?_; clear hK K))
      (refine wpAnyIn_done (by kernel_rfl) ?_ _)
      go_wp2
      go_roundw
      case rel => exact ⟨m + 1, by omega, by go_num, hown5.out, hB4.out⟩
      case measure => simp [intOf]; omega
    · obtain rfl : m = xs.length := by omega
      rw [List.take_length] at hown
      replace hbr := Lib.hid hbr
      replace hown := Lib.hid hown
      go_wp2
      go_ret
      exact ⟨_, rfl, hown.out, hbr.out⟩
end Go.Proofs.Ytdfohielnfdmkaa

/- Walks: helpers of the laws: a land of the reference is written anew for the program. -/
set_option linter.unusedVariables false
set_option linter.unusedSimpArgs false
namespace Go.Proofs.Ytdfohielnfdmkaa
open Go.RowKit
attribute [local go_sem low] cell_alloc_ite frozen_alloc_ite ov_cell ov_frozen

/-- Rows of other elements stay as they are while one grows. -/
theorem owns_type {w w' : World} {base base' : Nat} {e e' : TypeId} {k k' : Nat} {v u : Value} {n n' : Nat} {xs ys : List Value} (h : w.ownsRow base e k v n xs) (hu : w.ownsRow base' e' k' u n' ys) (hne : e ≠ e') (hg : w.grownBy w' u.ownBlock) : w'.ownsRow base e k v n xs := by
  obtain ⟨h1, h2⟩ := h
  refine ⟨h1, ?_⟩
  rcases h2 with h2 | ⟨g, cap, cur, hv, hgb, hh, r⟩
  · exact .inl h2
  · refine .inr ⟨g, cap, cur, hv, hgb, ?_, r⟩
    rw [hg.block g (Array.getElem?_eq_some_iff.1 hh).1 ?_]
    · exact hh
    · intro e1
      obtain ⟨_, hu2⟩ := hu
      rcases hu2 with ⟨rfl, _⟩ | ⟨g', cap', cur', rfl, _, hh', _⟩
      · simp [Value.ownBlock] at e1
      · simp [Value.ownBlock] at e1
        subst e1
        rw [hh] at hh'
        cases hh'
        exact hne rfl
theorem owns_set {w : World} {base : Nat} {e : TypeId} {k : Nat} {v : Value} {n : Nat} {xs : List Value} (h : w.ownsRow base e k v n xs) {b o : Nat} (hb : b < base) (u : Value) : (w.setCell ⟨b, o, none⟩ u).ownsRow base e k v n xs :=
  ownsRow_setCell_other h (fun e1 => by have := (h.lt _ e1).1; simp only at this; omega) u
theorem owns_mono {w : World} {base base' : Nat} {e : TypeId} {k : Nat} {v : Value} {n : Nat} {xs : List Value} (h : w.ownsRow base e k v n xs) (hb : base' ≤ base) : w.ownsRow base' e k v n xs := by
  obtain ⟨h1, h2⟩ := h
  exact ⟨h1, h2.imp id (fun ⟨g, cap, cur, hv, hgb, r⟩ => ⟨g, cap, cur, hv, by omega, r⟩)⟩

/-- What 'Land' has written so far. -/
structure LW (w : World) (base p : Nat) (box : List Value) (v0 v1 v2 v3 : Value) (A : List Sta) (B : List Wal) (C : List (List Clo)) (vs : List Value) (D : List Sun) (wr : World) : Prop where
  f : CellsAt wr (p + 1 + 1) [v0, v1, v2, v3]
  z : ∀ i, i < 4 → wr.frozen? ⟨p + 1 + 1, i, none⟩ = false
  b : CellsAt wr p box
  g : CellsAt wr (p + 1) [.slice none 0 0, .slice none 0 0, .slice none 0 0, .slice none 0 0]
  gz : ∀ i, i < 4 → wr.frozen? ⟨p + 1, i, none⟩ = false
  o0 : wr.ownsRow base 78 4 v0 A.length (A.flatMap encSta)
  o1 : wr.ownsRow base 67 6 v1 B.length (B.flatMap encWal)
  o2 : wr.ownsRow base 80 1 v2 C.length vs
  o3 : wr.ownsRow base 84 3 v3 D.length (D.flatMap encSun)
  inn : ∀ (i : Nat) (l : List Clo), C[i]? = some l → ∃ v, vs[i]? = some v ∧ wr.ownsRow base 98 8 v l.length (l.flatMap encClo)
  bel : Below w.heap.size w wr
  sz : base ≤ wr.heap.size
section
variable {w : World} {base p : Nat} {box : List Value} {v0 v1 v2 v3 : Value} {A : List Sta} {B : List Wal} {C : List (List Clo)} {vs : List Value} {D : List Sun} {wr w4 : World} {u : Value} {t : TypeId} {k n : Nat} {xs : List Value}
theorem LW.below (h : LW w base p box v0 v1 v2 v3 A B C vs D wr) (hb : Below wr.heap.size wr w4) : LW w base p box v0 v1 v2 v3 A B C vs D w4 := by
  have hk := kept_of_below hb
  have hz := hb.size
  have := h.sz
  exact ⟨h.f.kept hk, fun i hi => by
      have hl : wr.cell? ⟨p + 1 + 1, i, none⟩ = some (([v0, v1, v2, v3])[i]) := h.f i _ (List.getElem?_eq_getElem (by simpa using hi))
      exact (hb.frozen (p := ⟨p + 1 + 1, i, none⟩) (cell_lt hl)).trans (h.z i hi),
    h.b.kept hk, h.g.kept hk, fun i hi => by
      have hl : wr.cell? ⟨p + 1, i, none⟩ = some (([.slice none 0 0, .slice none 0 0, .slice none 0 0, .slice none 0 0] : List Value)[i]) := h.g i _ (List.getElem?_eq_getElem (by simpa using hi))
      exact (hb.frozen (p := ⟨p + 1, i, none⟩) (cell_lt hl)).trans (h.gz i hi),
    owns_below h.o0 hb, owns_below h.o1 hb, owns_below h.o2 hb, owns_below h.o3 hb, fun i l hl => by obtain ⟨v, h1, h2⟩ := h.inn i l hl; exact ⟨v, h1, owns_below h2 hb⟩, below_tr h.bel hb, by omega⟩
/-- The cells behind the growth of a row. -/
theorem LW.grown (h : LW w base p box v0 v1 v2 v3 A B C vs D wr) (hu : wr.ownsRow base t k u n xs) (hg : wr.grownBy w4 u.ownBlock) (hp : p + 1 + 1 < base) (hw : w.heap.size ≤ base) :
    CellsAt w4 (p + 1 + 1) [v0, v1, v2, v3] ∧ (∀ i, i < 4 → w4.frozen? ⟨p + 1 + 1, i, none⟩ = false) ∧ CellsAt w4 p box ∧ CellsAt w4 (p + 1) [.slice none 0 0, .slice none 0 0, .slice none 0 0, .slice none 0 0] ∧ (∀ i, i < 4 → w4.frozen? ⟨p + 1, i, none⟩ = false) ∧ Below w.heap.size w w4 ∧ base ≤ w4.heap.size := by
  have hlo : ∀ k, u.ownBlock = some k → base ≤ k := fun k hk => (hu.lt k hk).1
  have hs := h.sz
  refine ⟨fun i v hv => ?_, fun i hi => ?_, fun i v hv => ?_, fun i v hv => ?_, fun i hi => ?_, h.bel.grown hg h.bel.size (fun k hk => Nat.le_trans hw (hlo k hk)), Nat.le_trans hs hg.size⟩
  · exact hg.cell (h.f i v hv) (fun e => by have := hlo _ e.symm; simp only at this; omega)
  · exact (World.frozen?_of_block (hg.block (p + 1 + 1) (by omega) (fun e => by have := hlo _ e.symm; omega))).trans (h.z i hi)
  · exact hg.cell (h.b i v hv) (fun e => by have := hlo _ e.symm; simp only at this; omega)
  · exact hg.cell (h.g i v hv) (fun e => by have := hlo _ e.symm; simp only at this; omega)
  · exact (World.frozen?_of_block (hg.block (p + 1) (by omega) (fun e => by have := hlo _ e.symm; omega))).trans (h.gz i hi)
theorem cells_set4 {W : World} {q : Nat} {a0 a1 a2 a3 : Value} (h : CellsAt W q [a0, a1, a2, a3]) (u : Value) :
    CellsAt (W.setCell ⟨q, 0, none⟩ u) q [u, a1, a2, a3] ∧ CellsAt (W.setCell ⟨q, 1, none⟩ u) q [a0, u, a2, a3] ∧ CellsAt (W.setCell ⟨q, 2, none⟩ u) q [a0, a1, u, a3] ∧ CellsAt (W.setCell ⟨q, 3, none⟩ u) q [a0, a1, a2, u] := by
  have e0 := h 0 _ rfl
  have e1 := h 1 _ rfl
  have e2 := h 2 _ rfl
  have e3 := h 3 _ rfl
  have other : ∀ (i j : Nat) (x : Value), i ≠ j → W.cell? ⟨q, j, none⟩ = some x → (W.setCell ⟨q, i, none⟩ u).cell? ⟨q, j, none⟩ = some x := fun i j x hij hx => (World.cell?_setCell_other _ _ _ _ (by intro e; cases e; exact hij rfl)).trans hx
  exact ⟨cells4 (World.cell?_setCell_same' _ _ _ (by rw [e0]; rfl)) (other _ _ _ (by decide) e1) (other _ _ _ (by decide) e2) (other _ _ _ (by decide) e3), cells4 (other _ _ _ (by decide) e0) (World.cell?_setCell_same' _ _ _ (by rw [e1]; rfl)) (other _ _ _ (by decide) e2) (other _ _ _ (by decide) e3),
    cells4 (other _ _ _ (by decide) e0) (other _ _ _ (by decide) e1) (World.cell?_setCell_same' _ _ _ (by rw [e2]; rfl)) (other _ _ _ (by decide) e3), cells4 (other _ _ _ (by decide) e0) (other _ _ _ (by decide) e1) (other _ _ _ (by decide) e2) (World.cell?_setCell_same' _ _ _ (by rw [e3]; rfl))⟩
theorem cells_setO {W : World} {q r o : Nat} {l : List Value} (h : CellsAt W q l) (hq : q ≠ r) (u : Value) : CellsAt (W.setCell ⟨r, o, none⟩ u) q l := fun i v hv => (World.cell?_setCell_other _ _ _ _ (by intro e; cases e; exact hq rfl)).trans (h i v hv)
theorem LW.app0 (h : LW w base p box v0 v1 v2 v3 A B C vs D wr) (hp : p + 1 + 1 < base) (hw : w.heap.size ≤ p) (x : Sta) (hg : wr.grownBy w4 v0.ownBlock) (ho : w4.ownsRow base 78 4 u (A.length + 1) (A.flatMap encSta ++ encSta x)) :
    LW w base p box u v1 v2 v3 (A ++ [x]) B C vs D (w4.setCell ⟨p + 1 + 1, 0, none⟩ u) := by
  obtain ⟨g1, g2, g3, q3, q4, g4, g5⟩ := h.grown h.o0 hg hp (by omega)
  exact ⟨(cells_set4 g1 u).1, fun i hi => by rw [World.frozen?_setCell]; exact g2 i hi, cells_setO g3 (by omega) u, cells_setO q3 (by omega) u, fun i hi => by rw [World.frozen?_setCell]; exact q4 i hi, owns_set (by simpa using ho) hp u, owns_set (owns_type h.o1 h.o0 (by decide) hg) hp u, owns_set (owns_type h.o2 h.o0 (by decide) hg) hp u, owns_set (owns_type h.o3 h.o0 (by decide) hg) hp u,
    fun i l hl => by obtain ⟨v, h1, h2⟩ := h.inn i l hl; exact ⟨v, h1, owns_set (owns_type h2 h.o0 (by decide) hg) hp u⟩, g4.setCell (by simp; omega) u, by simpa using g5⟩
theorem LW.app1 (h : LW w base p box v0 v1 v2 v3 A B C vs D wr) (hp : p + 1 + 1 < base) (hw : w.heap.size ≤ p) (x : Wal) (hg : wr.grownBy w4 v1.ownBlock) (ho : w4.ownsRow base 67 6 u (B.length + 1) (B.flatMap encWal ++ encWal x)) :
    LW w base p box v0 u v2 v3 A (B ++ [x]) C vs D (w4.setCell ⟨p + 1 + 1, 1, none⟩ u) := by
  obtain ⟨g1, g2, g3, q3, q4, g4, g5⟩ := h.grown h.o1 hg hp (by omega)
  exact ⟨(cells_set4 g1 u).2.1, fun i hi => by rw [World.frozen?_setCell]; exact g2 i hi, cells_setO g3 (by omega) u, cells_setO q3 (by omega) u, fun i hi => by rw [World.frozen?_setCell]; exact q4 i hi, owns_set (owns_type h.o0 h.o1 (by decide) hg) hp u, owns_set (by simpa using ho) hp u, owns_set (owns_type h.o2 h.o1 (by decide) hg) hp u, owns_set (owns_type h.o3 h.o1 (by decide) hg) hp u,
    fun i l hl => by obtain ⟨v, h1, h2⟩ := h.inn i l hl; exact ⟨v, h1, owns_set (owns_type h2 h.o1 (by decide) hg) hp u⟩, g4.setCell (by simp; omega) u, by simpa using g5⟩
theorem LW.app2 (h : LW w base p box v0 v1 v2 v3 A B C vs D wr) (hp : p + 1 + 1 < base) (hw : w.heap.size ≤ p) (x : List Clo) (v : Value) (hv : wr.ownsRow base 98 8 v x.length (x.flatMap encClo)) (hg : wr.grownBy w4 v2.ownBlock) (ho : w4.ownsRow base 80 1 u (C.length + 1) (vs ++ [v])) :
    LW w base p box v0 v1 u v3 A B (C ++ [x]) (vs ++ [v]) D (w4.setCell ⟨p + 1 + 1, 2, none⟩ u) := by
  obtain ⟨g1, g2, g3, q3, q4, g4, g5⟩ := h.grown h.o2 hg hp (by omega)
  have hlv : vs.length = C.length := by have := h.o2.1; omega
  exact ⟨(cells_set4 g1 u).2.2.1, fun i hi => by rw [World.frozen?_setCell]; exact g2 i hi, cells_setO g3 (by omega) u, cells_setO q3 (by omega) u, fun i hi => by rw [World.frozen?_setCell]; exact q4 i hi, owns_set (owns_type h.o0 h.o2 (by decide) hg) hp u, owns_set (owns_type h.o1 h.o2 (by decide) hg) hp u, owns_set (by simpa using ho) hp u, owns_set (owns_type h.o3 h.o2 (by decide) hg) hp u,
    fun i l hl => by
      rcases Nat.lt_or_ge i C.length with hi | hi
      · rw [List.getElem?_append_left hi] at hl
        obtain ⟨v, h1, h2⟩ := h.inn i l hl
        exact ⟨v, by rw [List.getElem?_append_left (by omega)]; exact h1, owns_set (owns_type h2 h.o2 (by decide) hg) hp u⟩
      · rw [List.getElem?_append_right hi] at hl
        have : i = C.length := by
          have := (List.getElem?_eq_some_iff.1 hl).1
          simp at this; omega
        subst this
        simp at hl
        subst hl
        exact ⟨v, by rw [List.getElem?_append_right (by omega)]; simp [hlv], owns_set (owns_type hv h.o2 (by decide) hg) hp u⟩, g4.setCell (by simp; omega) u, by simpa using g5⟩
theorem LW.app3 (h : LW w base p box v0 v1 v2 v3 A B C vs D wr) (hp : p + 1 + 1 < base) (hw : w.heap.size ≤ p) (x : Sun) (hg : wr.grownBy w4 v3.ownBlock) (ho : w4.ownsRow base 84 3 u (D.length + 1) (D.flatMap encSun ++ encSun x)) :
    LW w base p box v0 v1 v2 u A B C vs (D ++ [x]) (w4.setCell ⟨p + 1 + 1, 3, none⟩ u) := by
  obtain ⟨g1, g2, g3, q3, q4, g4, g5⟩ := h.grown h.o3 hg hp (by omega)
  exact ⟨(cells_set4 g1 u).2.2.2, fun i hi => by rw [World.frozen?_setCell]; exact g2 i hi, cells_setO g3 (by omega) u, cells_setO q3 (by omega) u, fun i hi => by rw [World.frozen?_setCell]; exact q4 i hi, owns_set (owns_type h.o0 h.o3 (by decide) hg) hp u, owns_set (owns_type h.o1 h.o3 (by decide) hg) hp u, owns_set (owns_type h.o2 h.o3 (by decide) hg) hp u, owns_set (by simpa using ho) hp u,
    fun i l hl => by obtain ⟨v, h1, h2⟩ := h.inn i l hl; exact ⟨v, h1, owns_set (owns_type h2 h.o3 (by decide) hg) hp u⟩, g4.setCell (by simp; omega) u, by simpa using g5⟩
variable {wA : World}
theorem LW.step0 (h : LW w base p box v0 v1 v2 v3 A B C vs D wr) (hb : Below wr.heap.size wr wA) (hp : p + 1 + 1 < base) (hw : w.heap.size ≤ p) (x : Sta) (hg : wA.grownBy w4 v0.ownBlock) (hn : n = A.length) (ho : w4.ownsRow base 78 4 u (n + 1) (A.flatMap encSta ++ encSta x)) :
    w4.cell? ⟨p + 1 + 1, 0, none⟩ = some v0 ∧ w4.frozen? ⟨p + 1 + 1, 0, none⟩ = false ∧ Hid (LW w base p box u v1 v2 v3 (A ++ [x]) B C vs D (w4.setCell ⟨p + 1 + 1, 0, none⟩ u)) := by
  subst hn
  have h4 := h.below hb
  obtain ⟨g1, g2, _⟩ := h4.grown h4.o0 hg hp (by omega)
  exact ⟨g1 0 _ rfl, g2 0 (by omega), Lib.hid (h4.app0 hp hw x hg ho)⟩
theorem LW.step1 (h : LW w base p box v0 v1 v2 v3 A B C vs D wr) (hb : Below wr.heap.size wr wA) (hp : p + 1 + 1 < base) (hw : w.heap.size ≤ p) (x : Wal) (hg : wA.grownBy w4 v1.ownBlock) (hn : n = B.length) (ho : w4.ownsRow base 67 6 u (n + 1) (B.flatMap encWal ++ encWal x)) :
    w4.cell? ⟨p + 1 + 1, 1, none⟩ = some v1 ∧ w4.frozen? ⟨p + 1 + 1, 1, none⟩ = false ∧ Hid (LW w base p box v0 u v2 v3 A (B ++ [x]) C vs D (w4.setCell ⟨p + 1 + 1, 1, none⟩ u)) := by
  subst hn
  have h4 := h.below hb
  obtain ⟨g1, g2, _⟩ := h4.grown h4.o1 hg hp (by omega)
  exact ⟨g1 1 _ rfl, g2 1 (by omega), Lib.hid (h4.app1 hp hw x hg ho)⟩
theorem LW.step3 (h : LW w base p box v0 v1 v2 v3 A B C vs D wr) (hb : Below wr.heap.size wr wA) (hp : p + 1 + 1 < base) (hw : w.heap.size ≤ p) (x : Sun) (hg : wA.grownBy w4 v3.ownBlock) (hn : n = D.length) (ho : w4.ownsRow base 84 3 u (n + 1) (D.flatMap encSun ++ encSun x)) :
    w4.cell? ⟨p + 1 + 1, 3, none⟩ = some v3 ∧ w4.frozen? ⟨p + 1 + 1, 3, none⟩ = false ∧ Hid (LW w base p box v0 v1 v2 u A B C vs (D ++ [x]) (w4.setCell ⟨p + 1 + 1, 3, none⟩ u)) := by
  subst hn
  have h4 := h.below hb
  obtain ⟨g1, g2, _⟩ := h4.grown h4.o3 hg hp (by omega)
  exact ⟨g1 3 _ rfl, g2 3 (by omega), Lib.hid (h4.app3 hp hw x hg ho)⟩
theorem LW.step2 (h : LW w base p box v0 v1 v2 v3 A B C vs D wr) (hb : Below wr.heap.size wr wA) (hp : p + 1 + 1 < base) (hw : w.heap.size ≤ p) (x : List Clo) (v : Value) (hv : wA.ownsRow base 98 8 v x.length (x.flatMap encClo)) (hg : wA.grownBy w4 v2.ownBlock) (hn : n = C.length) (ho : w4.ownsRow base 80 1 u (n + 1) (vs ++ [v])) :
    w4.cell? ⟨p + 1 + 1, 2, none⟩ = some v2 ∧ w4.frozen? ⟨p + 1 + 1, 2, none⟩ = false ∧ Hid (LW w base p box v0 v1 u v3 A B (C ++ [x]) (vs ++ [v]) D (w4.setCell ⟨p + 1 + 1, 2, none⟩ u)) := by
  subst hn
  have h4 := h.below hb
  obtain ⟨g1, g2, _⟩ := h4.grown h4.o2 hg hp (by omega)
  exact ⟨g1 2 _ rfl, g2 2 (by omega), Lib.hid (h4.app2 hp hw x v hv hg ho)⟩
/-- What is written reads as the land. -/
theorem rdl_of {A0 A1 A2 A3 : Option Addr} {q0 q1 q2 q3 n0 n1 n2 n3 : Nat} {L : Lnd} (o0 : wr.ownsRow base 78 4 (.slice A0 n0 q0) L.st.length (L.st.flatMap encSta)) (o1 : wr.ownsRow base 67 6 (.slice A1 n1 q1) L.ri.length (L.ri.flatMap encWal)) (o2 : wr.ownsRow base 80 1 (.slice A2 n2 q2) L.ca.length vs) (o3 : wr.ownsRow base 84 3 (.slice A3 n3 q3) L.su.length (L.su.flatMap encSun)) (inn : ∀ (i : Nat) (l : List Clo), L.ca[i]? = some l → ∃ v, vs[i]? = some v ∧ wr.ownsRow base 98 8 v l.length (l.flatMap encClo))
    (l0 : L.st.length ≤ 9) (l1 : L.ri.length ≤ 9) (l2 : L.ca.length ≤ 9) (l3 : L.su.length ≤ 15) (h7 : ∀ (i : Nat) (l : List Clo), L.ca[i]? = some l → l.length ≤ 7) : RdL wr ⟨A0, q0, A1, q1, A2, q2, A3, q3⟩ L := by
  obtain ⟨_, _, e0, r0, c0, _⟩ := row_of_owns (k := 4) (enc := encSta) (fun _ => rfl) o0
  obtain ⟨_, _, e1, r1, c1, _⟩ := row_of_owns (k := 6) (enc := encWal) (fun _ => rfl) o1
  obtain ⟨_, _, e3, r3, c3, _⟩ := row_of_owns (k := 3) (enc := encSun) (fun _ => rfl) o3
  have hlv : vs.length = L.ca.length := by have := o2.1; omega
  have ho2 := o2
  rw [← hlv, show vs = vs.flatMap (fun v => [v]) by induction vs <;> simp_all] at ho2
  rw [show (vs.flatMap (fun v => [v])).length = vs.length by rw [← show vs = vs.flatMap (fun v => [v]) by simp]] at ho2
  obtain ⟨_, _, e2, r2, c2, _⟩ := row_of_owns (k := 1) (enc := fun v : Value => [v]) (fun _ => rfl) ho2
  cases e0; cases e1; cases e2; cases e3
  refine ⟨r0, r1, fun i l hl => ?_, r3, l0, l1, l2, l3, c0, c1, by simp only; omega, c3⟩
  obtain ⟨v, hv, hov⟩ := inn i l hl
  obtain ⟨A', c', ev, rr, cc, _⟩ := row_of_owns (k := 8) (enc := encClo) (fun _ => rfl) hov
  subst ev
  obtain ⟨b, o, hA, hc⟩ := r2 i _ hv
  refine ⟨b, o, A', c', hA, ?_, cc, h7 i l hl, rr⟩
  have := hc 0 _ rfl
  rwa [Nat.mul_one] at this
theorem LW.done {A0 A1 A2 A3 : Option Addr} {q0 q1 q2 q3 : Nat} {L : Lnd} (h : LW w base p box (.slice A0 L.st.length q0) (.slice A1 L.ri.length q1) (.slice A2 L.ca.length q2) (.slice A3 L.su.length q3) L.st L.ri L.ca vs L.su wr)
    (l0 : L.st.length ≤ 9) (l1 : L.ri.length ≤ 9) (l2 : L.ca.length ≤ 9) (l3 : L.su.length ≤ 15) (h7 : ∀ (i : Nat) (l : List Clo), L.ca[i]? = some l → l.length ≤ 7) (hp : p + 1 + 1 < base) (hw : w.heap.size ≤ p) :
    CellsAt ((((wr.setCell ⟨p + 1, 0, none⟩ (.slice A0 L.st.length q0)).setCell ⟨p + 1, 1, none⟩ (.slice A1 L.ri.length q1)).setCell ⟨p + 1, 2, none⟩ (.slice A2 L.ca.length q2)).setCell ⟨p + 1, 3, none⟩ (.slice A3 L.su.length q3)) (p + 1) [.slice A0 L.st.length q0, .slice A1 L.ri.length q1, .slice A2 L.ca.length q2, .slice A3 L.su.length q3] ∧
    RdL ((((wr.setCell ⟨p + 1, 0, none⟩ (.slice A0 L.st.length q0)).setCell ⟨p + 1, 1, none⟩ (.slice A1 L.ri.length q1)).setCell ⟨p + 1, 2, none⟩ (.slice A2 L.ca.length q2)).setCell ⟨p + 1, 3, none⟩ (.slice A3 L.su.length q3)) ⟨A0, q0, A1, q1, A2, q2, A3, q3⟩ L ∧
    Below w.heap.size w ((((wr.setCell ⟨p + 1, 0, none⟩ (.slice A0 L.st.length q0)).setCell ⟨p + 1, 1, none⟩ (.slice A1 L.ri.length q1)).setCell ⟨p + 1, 2, none⟩ (.slice A2 L.ca.length q2)).setCell ⟨p + 1, 3, none⟩ (.slice A3 L.su.length q3)) := by
  have hp' : p + 1 < base := by omega
  refine ⟨(cells_set4 (cells_set4 (cells_set4 (cells_set4 h.g _).1 _).2.1 _).2.2.1 _).2.2.2, ?_, (((h.bel.setCell (by simp; omega) _).setCell (by simp; omega) _).setCell (by simp; omega) _).setCell (by simp; omega) _⟩
  have go : ∀ {e : TypeId} {k n : Nat} {v : Value} {xs : List Value}, wr.ownsRow base e k v n xs → ((((wr.setCell ⟨p + 1, 0, none⟩ (.slice A0 L.st.length q0)).setCell ⟨p + 1, 1, none⟩ (.slice A1 L.ri.length q1)).setCell ⟨p + 1, 2, none⟩ (.slice A2 L.ca.length q2)).setCell ⟨p + 1, 3, none⟩ (.slice A3 L.su.length q3)).ownsRow base e k v n xs := fun h => owns_set (owns_set (owns_set (owns_set h hp' _) hp' _) hp' _) hp' _
  exact rdl_of (go h.o0) (go h.o1) (go h.o2) (go h.o3) (fun i l hl => by obtain ⟨v, h1, h2⟩ := h.inn i l hl; exact ⟨v, h1, go h2⟩) l0 l1 l2 l3 h7
end
end Go.Proofs.Ytdfohielnfdmkaa

/- An append as one step of a drawn region (the law of R3, by itself). -/
set_option linter.unusedVariables false
namespace Go.Proofs.Ytdfohielnfdmkaa
open Go.RowKit
/-- An append to a slice of one's own, as one step of a region that draws its order. -/
theorem step_append_ownZ {P : Program} {ops : Array Oper} {o : Oper} {a : Act} {w : World} {K : Act → World → Prop} {Q : Exit → Act → World → Prop} {E : Prop}
    (hg : o.guard = none) (s x : Operand) (t : TypeId) (ho : o.op = Op.call { callee := Callee.builtin Builtin.append, args := #[s, x], argTypes := #[t, t] })
    (base : Nat) (e : TypeId) (i : TypeInfo) (z : Value) (size bytes : Nat) (ht : P.underlying t = some (.slice e)) (hi : P.info? e = some i) (hz : i.zero = some z)
    (hsize : i.size = size) (hby : i.bytes = bytes) (hzs : z.cells.size = size) (hsz : 0 < size)
    (v : Value) (n : Nat) (xs : List Value) (hs : a.eval s = v) (hown : w.ownsRow base e size v n xs)
    (ad : Addr) (m c : Nat) (news : List Value) (hx : a.eval x = .slice (some ad) m c) (hl : news.length = m * size) (hnews : ∀ j u, news[j]? = some u → w.cell? (ad.add j) = some u) (h1 : ∀ u ∈ news, u.oneCell' = true)
    (h63 : n + m ≤ maxLen) (hbytes : (n + m) * bytes ≤ 140737488355328) (hbase : base ≤ w.heap.size)
    (hK : ∀ v' w', w'.ownsRow base e size v' (n + m) (xs ++ news) → w.grownBy w' v.ownBlock → K (a.put o.dst v') w') :
    if Region.wanted o (yielded ops a.tmps) = true then Oper.wp P o a w K Q else E := by
  have hw : Region.wanted o (yielded ops a.tmps) = true := by simp [Region.wanted, hg]
  rw [if_pos hw]
  exact wp_append_own w s x t ho base e i z size bytes ht hi hz hsize hby hzs hsz v n xs hs hown ad m c news hx hl hnews h1 h63 hbytes hbase fun v' w' h2 h3 _ => hK v' w' h2 h3

end Go.Proofs.Ytdfohielnfdmkaa

/- Walks: helpers of the laws: Land. -/
set_option linter.unusedVariables false
set_option linter.unusedSimpArgs false
namespace Go.Proofs.Ytdfohielnfdmkaa
open Go.RowKit
attribute [local go_sem low] cell_alloc_ite frozen_alloc_ite ov_cell ov_frozen

theorem info_sta : (Try.prog.info? 78).map (fun i => (i.zero, i.size, i.bytes)) = some (some (.agg #[.int .i64 0, .int .i64 0, .int .i64 0, .int .i64 0]), 4, 32) := by kernel_rfl
theorem info_wal : (Try.prog.info? 67).map (fun i => (i.zero, i.size, i.bytes)) = some (some (.agg #[.int .i64 0, .int .i64 0, .int .i64 0, .int .i64 0, .int .i64 0, .int .i64 0]), 6, 48) := by kernel_rfl
theorem info_clos : (Try.prog.info? 80).map (fun i => (i.zero, i.size, i.bytes)) = some (some (.slice none 0 0), 1, 24) := by kernel_rfl
theorem info_sun : (Try.prog.info? 84).map (fun i => (i.zero, i.size, i.bytes)) = some (some (.agg #[.int .i64 0, .int .i64 0, .int .i64 0]), 3, 24) := by kernel_rfl
/-- The cells of a new block. -/
theorem cells_newB {w : World} {b : Nat} {cs : Array Value} {l : List Value} {t : TypeId} (hb : b = w.heap.size) (hcs : cs.toList = l) : ∀ j u, l[j]? = some u → (w.alloc (.cells cs t)).cell? ((⟨b, 0, none⟩ : Addr).add j) = some u := fun j u hj => by
  subst hb hcs
  rw [show (⟨w.heap.size, 0, none⟩ : Addr).add j = ⟨w.heap.size, j, none⟩ by unfold Addr.add; split <;> simp_all]
  rw [World.cell?_alloc_at (w := w) _ _ _ _ rfl]; simpa using hj
theorem one_sta (x : Sta) : ∀ u ∈ encSta x, u.oneCell' = true := fun u hu => by simp [encSta] at hu; rcases hu with rfl | rfl | rfl | rfl <;> rfl
theorem one_wal (x : Wal) : ∀ u ∈ encWal x, u.oneCell' = true := fun u hu => by simp [encWal] at hu; rcases hu with rfl | rfl | rfl | rfl | rfl | rfl <;> rfl
theorem one_sun (x : Sun) : ∀ u ∈ encSun x, u.oneCell' = true := fun u hu => by simp [encSun] at hu; rcases hu with rfl | rfl | rfl <;> rfl
theorem take_snoc' {α : Type} {xs : List α} {m : Nat} {x : α} (h : xs[m]? = some x) : xs.take (m + 1) = xs.take m ++ [x] := by
  obtain ⟨hl, e⟩ := List.getElem?_eq_some_iff.1 h
  rw [List.take_succ_eq_append_getElem hl, e]
theorem owns_form {w : World} {base : Nat} {e : TypeId} {k n : Nat} {v : Value} {xs : List Value} (h : w.ownsRow base e k v n xs) : ∃ A c, v = .slice A n c := by
  rcases h.2 with ⟨rfl, rfl⟩ | ⟨g, cap, cur, rfl, _⟩ <;> exact ⟨_, _, rfl⟩
theorem owns_one {w : World} {base : Nat} {e : TypeId} {k n : Nat} {v : Value} {xs : List Value} (h : w.ownsRow base e k v n xs) : ∀ u ∈ [v], u.oneCell' = true := fun u hu => by
  simp at hu; subst hu
  rcases h.2 with ⟨rfl, _⟩ | ⟨g, cap, cur, rfl, _⟩ <;> rfl
theorem grown_cellZ {w w' : World} {v : Value} (hg : w.grownBy w' v.ownBlock) {base : Nat} (hlo : ∀ k, v.ownBlock = some k → base ≤ k) {b o : Nat} {x : Value} (h : w.cell? ⟨b, o, none⟩ = some x) (hb : b < base) : w'.cell? ⟨b, o, none⟩ = some x :=
  hg.cell h (fun e => by have := hlo _ e.symm; simp only at this; omega)
/-- How far 'Land' has come. -/
def LandI (w : World) (base p : Nat) (box : List Value) (L : Lnd) (m0 m1 m2 m3 : Nat) (wr : World) : Prop :=
  ∃ v0 v1 v2 v3 vs, LW w base p box v0 v1 v2 v3 (L.st.take m0) (L.ri.take m1) (L.ca.take m2) vs (L.su.take m3) wr
def LandL0 (w : World) (base p : Nat) (box : List Value) (L : Lnd) (n : Value) (wr : World) : Prop := ∃ m : Nat, m ≤ L.st.length ∧ n = .int .i64 m ∧ LandI w base p box L m 0 0 0 wr
def LandL1 (w : World) (base p : Nat) (box : List Value) (L : Lnd) (n : Value) (wr : World) : Prop := ∃ m : Nat, m ≤ L.ri.length ∧ n = .int .i64 m ∧ LandI w base p box L L.st.length m 0 0 wr
def LandL2 (w : World) (base p : Nat) (box : List Value) (L : Lnd) (n : Value) (wr : World) : Prop := ∃ m : Nat, m ≤ L.ca.length ∧ n = .int .i64 m ∧ LandI w base p box L L.st.length L.ri.length m 0 wr
def LandL3 (w : World) (base p : Nat) (box : List Value) (L : Lnd) (n : Value) (wr : World) : Prop := ∃ m : Nat, m ≤ L.su.length ∧ n = .int .i64 m ∧ LandI w base p box L L.st.length L.ri.length L.ca.length m wr

set_option maxRecDepth 100000 in
set_option maxHeartbeats 8000000 in
theorem land_any (V : LV) (L : Lnd) (w : World) (hr : RdL w V L) : Calls Try.prog 11 #[vLnd V L] w (LandMade L w) := by
  have HR := Lib.hid hr
  have l0 := hr.l0
  have l1 := hr.l1
  have l2 := hr.l2
  have l3 := hr.l3
  have HW := Lib.hid (fun x1 y1 x2 y2 b t W => xwall_any x1 y1 x2 y2 b t W)
  have HC := Lib.hid (fun A c xs W hx lx => lclouds_any A c xs W hx lx)
  obtain ⟨i0, hi0, hz0, hz1, hz2⟩ := info_parts info_sta
  obtain ⟨i1, hi1, hw0, hw1, hw2⟩ := info_parts info_wal
  obtain ⟨i2, hi2, hc0, hc1, hc2⟩ := info_parts info_clos
  obtain ⟨i3, hi3, hs0, hs1, hs2⟩ := info_parts info_sun
  obtain ⟨a0, c0, a1, c1, a2, c2, a3, c3⟩ := V
  simp only [vLnd]
  clear hr
  go_enter Try.func11, Try.ntmps11
  go_wp2
  generalize hA : World.alloc (World.alloc (World.alloc w _) _) _ = W0
  have hbase : W0.heap.size = w.heap.size + 3 := by subst hA; simp
  have hst : LandL0 w W0.heap.size w.heap.size [.slice a0 L.st.length c0, .slice a1 L.ri.length c1, .slice a2 L.ca.length c2, .slice a3 L.su.length c3] L (.int .i64 0) W0 := by
    refine ⟨0, Nat.zero_le _, rfl, .slice none 0 0, .slice none 0 0, .slice none 0 0, .slice none 0 0, [], ?_⟩
    exact ⟨(by subst hA; exact cells4 (by (try go_simp); (repeat (simp only [↓IntWalk.iteOmega]; (try go_simp))); (try omega)) (by (try go_simp); (repeat (simp only [↓IntWalk.iteOmega]; (try go_simp))); (try omega)) (by (try go_simp); (repeat (simp only [↓IntWalk.iteOmega]; (try go_simp))); (try omega)) (by (try go_simp); (repeat (simp only [↓IntWalk.iteOmega]; (try go_simp))); (try omega))), (by subst hA; intro i hi; go_simp), (by subst hA; exact cells4 (by (try go_simp); (repeat (simp only [↓IntWalk.iteOmega]; (try go_simp))); (try omega)) (by (try go_simp); (repeat (simp only [↓IntWalk.iteOmega]; (try go_simp))); (try omega)) (by (try go_simp); (repeat (simp only [↓IntWalk.iteOmega]; (try go_simp))); (try omega)) (by (try go_simp); (repeat (simp only [↓IntWalk.iteOmega]; (try go_simp))); (try omega))), (by subst hA; exact cells4 (by (try go_simp); (repeat (simp only [↓IntWalk.iteOmega]; (try go_simp))); (try omega)) (by (try go_simp); (repeat (simp only [↓IntWalk.iteOmega]; (try go_simp))); (try omega)) (by (try go_simp); (repeat (simp only [↓IntWalk.iteOmega]; (try go_simp))); (try omega)) (by (try go_simp); (repeat (simp only [↓IntWalk.iteOmega]; (try go_simp))); (try omega))), (by subst hA; intro i hi; go_simp), World.ownsRow_nil _ _ _ _, World.ownsRow_nil _ _ _ _, World.ownsRow_nil _ _ _ _, World.ownsRow_nil _ _ _ _, fun i l hl => by simp at hl, (by subst hA; (repeat (first | exact Below.refl _ _ | (with_reducible exact Hid.out (by assumption)) | refine below_al ?_ _ | refine below_dr ?_ | refine below_tr ?_ (by assumption) | refine below_tr ?_ (Bel.out (by assumption)) | refine below_tr ?_ (Bel.out (ov_bel _ _)) | refine below_set ?_ (by simp; try omega)))), Nat.le_refl _⟩
  clear hA
  replace hst := Lib.hid hst
  generalize W0.heap.size = B at *
  have hB : w.heap.size + 3 ≤ B := by omega
  clear hbase
  go_loopw [4] (fun n wr => LandL0 w B w.heap.size [.slice a0 L.st.length c0, .slice a1 L.ri.length c1, .slice a2 L.ca.length c2, .slice a3 L.su.length c3] L n wr) (fun n _ => L.st.length - (intOf n).toNat)
  case atStart => exact hst.out
  case round =>
    clear hst
    obtain ⟨m, hm, rfl, v0, v1, v2, v3, vs, hW⟩ := hrel
    have x0 := hW.b 0 _ rfl
    have y0 := hW.f 0 _ rfl
    have z0 := hW.z 0 (by omega)
    have hsz := hW.sz
    have ho := hW.o0
    have hlo := hW.o0.lt
    have hbw := hW.bel
    by_cases hlt : m < L.st.length
    · have hx := List.getElem?_eq_getElem hlt
      obtain ⟨b, o, hA, e0, e1, e2, e3⟩ := (HR.out.st.kept (kept_of_below hbw)).sta hx
      have hl := cell_lt e0
      generalize L.st[m] = x at *
      simp only at hA hl
      subst hA
      have hln : (L.st.take m).length ≤ 15 := by rw [List.length_take]; omega
      have HX := Lib.hid (take_snoc' hx)
      obtain ⟨sx, sy, sz, sm⟩ := x
      simp only at e0 e1 e2 e3
      replace hW := Lib.hid hW
      replace ho := Lib.hid ho
      replace hlo := Lib.hid hlo
      replace hbw := Lib.hid hbw
      clear hx
      go_wp2_with (at_builtin; (refine wpList_append_own _ rfl _ _ 35 rfl B 78 i0 (.agg #[.int .i64 0, .int .i64 0, .int .i64 0, .int .i64 0]) 4 32 Try.underlying35 hi0 hz0 hz1 hz2 rfl (by decide) _ _ _ rfl (ho.out.alloc _ |>.alloc _) ⟨wr.heap.size + 1, 0, none⟩ 1 1 (encSta ⟨sx, sy, sz, sm⟩) rfl rfl ?c1 (one_sta _) ?c3 ?c4 ?c5 ?_))
      case c1 => exact cells_newB (by simp) rfl
      case c3 => unfold maxLen; omega
      case c4 => omega
      case c5 => simp; omega
      intro v' w4 hown4 hgrow _
      obtain ⟨g4, cap4, rfl⟩ := ownsRow_succ hown4
      have hW4 := hW.out.below (w4 := (wr.alloc (.cells #[.int .i64 sx, .int .i64 sy, .int .i64 sz, .int .i64 sm] 77)).alloc (.cells #[.int .i64 sx, .int .i64 sy, .int .i64 sz, .int .i64 sm] 78)) (by (repeat (first | exact Below.refl _ _ | (with_reducible exact Hid.out (by assumption)) | refine below_al ?_ _ | refine below_dr ?_ | refine below_tr ?_ (by assumption) | refine below_tr ?_ (Bel.out (by assumption)) | refine below_tr ?_ (Bel.out (ov_bel _ _)) | refine below_set ?_ (by simp; try omega))))
      obtain ⟨g1, g2, _⟩ := hW4.grown hW4.o0 hgrow (by omega) (by omega)
      have k0 := g1 0 _ rfl
      have k1 := g2 0 (by omega)
      have hfin := Lib.hid (hW4.app0 (by omega) (Nat.le_refl _) ⟨sx, sy, sz, sm⟩ hgrow (by rw [show (L.st.take m).length = m by rw [List.length_take]; omega]; exact hown4))
      clear hW4 hgrow hown4 g1 g2 hW ho hlo hbw x0 y0 z0 e0 e1 e2 e3
      go_wp2
      go_roundw
      case rel => exact ⟨m + 1, by omega, by go_num, _, v1, v2, v3, vs, by rw [HX.out]; exact hfin.out⟩
      case measure => simp [intOf]; omega
    · obtain rfl : m = L.st.length := by omega
      have hst : Hid (LandL1 w B w.heap.size [.slice a0 L.st.length c0, .slice a1 L.ri.length c1, .slice a2 L.ca.length c2, .slice a3 L.su.length c3] L (.int .i64 0) wr) := Lib.hid ⟨0, Nat.zero_le _, rfl, v0, v1, v2, v3, vs, hW⟩
      clear hW ho hlo hbw y0 z0 hsz
      go_wp2
      clear x0
      obtain ⟨w2, rfl⟩ : ∃ w2, w2 = wr := ⟨wr, rfl⟩
      go_loopw [6] (fun n wr => LandL1 w B w.heap.size [.slice a0 L.st.length c0, .slice a1 L.ri.length c1, .slice a2 L.ca.length c2, .slice a3 L.su.length c3] L n wr) (fun n _ => L.ri.length - (intOf n).toNat)
      case atStart => exact hst.out
      case round =>
        clear hst
        obtain ⟨m, hm, rfl, v0, v1, v2, v3, vs, hW⟩ := hrel
        have x0 := hW.b 1 _ rfl
        have y0 := hW.f 1 _ rfl
        have z0 := hW.z 1 (by omega)
        have hsz := hW.sz
        have ho : wr.ownsRow B 67 6 v1 m ((L.ri.take m).flatMap encWal) := by have h0 := hW.o1; rwa [show (L.ri.take m).length = m by rw [List.length_take]; omega] at h0
        have hlo := hW.o1.lt
        have hbw := hW.bel
        by_cases hlt : m < L.ri.length
        · have hx := List.getElem?_eq_getElem hlt
          obtain ⟨b, o, hA, e0, e1, e2, e3, e4, e5⟩ := (HR.out.ri.kept (kept_of_below hbw)).wal hx
          have hl := cell_lt e0
          generalize L.ri[m] = x at *
          simp only at hA hl
          subst hA
          have hln : (L.ri.take m).length ≤ 15 := by rw [List.length_take]; omega
          have HX := Lib.hid (take_snoc' hx)
          obtain ⟨wx1, wy1, wx2, wy2, wb, wt⟩ := x
          simp only at e0 e1 e2 e3 e4 e5
          replace hW := Lib.hid hW
          replace ho := Lib.hid ho
          replace hlo := Lib.hid hlo
          replace hbw := Lib.hid hbw
          clear hx
          go_wp2
          go_region_law (first | (go_simp; go_at_call 29; refine (HW.out _ _ _ _ _ _ _).mono ?_; rintro e w' ⟨rfl, hb⟩; have y0' : w'.cell? ⟨w.heap.size + 1 + 1, 1, none⟩ = some v1 := kept_of_below hb _ _ y0; have hz0 : wr.heap.size ≤ w'.heap.size := (by have := hb.size; simp at this; omega); have n1 : ¬ w.heap.size + 1 + 1 = w'.heap.size := (by omega)) | (refine step_append_ownZ rfl (.tmp 43) (.tmp 50) 36 rfl B 67 i1 (.agg #[.int .i64 0, .int .i64 0, .int .i64 0, .int .i64 0, .int .i64 0, .int .i64 0]) 6 48 Try.underlying36 hi1 hw0 hw1 hw2 rfl (by decide) v1 m _ (by simp [Act.eval, Act.put]) (owns_below ho.out (by (repeat (first | exact Below.refl _ _ | (with_reducible exact Hid.out (by assumption)) | refine below_al ?_ _ | refine below_dr ?_ | refine below_tr ?_ (by assumption) | refine below_tr ?_ (Bel.out (by assumption)) | refine below_tr ?_ (Bel.out (ov_bel _ _)) | refine below_set ?_ (by simp; try omega))))) ⟨w'.heap.size, 0, none⟩ 1 1 (encWal ⟨wx1, wy1, wx2, wy2, wb, wt⟩) (by simp [Act.eval, Act.put]) rfl (cells_newB (by simp) rfl) (one_wal _) (by unfold maxLen; omega) (by omega) (by simp; omega) ?_; intro v' w4 hown4 hgrow; obtain ⟨g4, cap4, rfl⟩ := ownsRow_succ hown4; obtain ⟨k0, k1, hfin⟩ := hW.out.step1 (by (repeat (first | exact Below.refl _ _ | (with_reducible exact Hid.out (by assumption)) | refine below_al ?_ _ | refine below_dr ?_ | refine below_tr ?_ (by assumption) | refine below_tr ?_ (Bel.out (by assumption)) | refine below_tr ?_ (Bel.out (ov_bel _ _)) | refine below_set ?_ (by simp; try omega)))) (by omega) (Nat.le_refl _) ⟨wx1, wy1, wx2, wy2, wb, wt⟩ hgrow (by rw [List.length_take]; omega) hown4; clear hgrow hown4))
          all_goals
            clear hW ho hlo hbw x0 y0 z0 e0 e1 e2 e3 e4 e5 k0 k1
            go_wp2
            go_roundw
            case rel => exact ⟨m + 1, by omega, by go_num, _, _, v2, v3, vs, by rw [HX.out]; exact hfin.out⟩
            case measure => simp [intOf]; omega
        · obtain rfl : m = L.ri.length := by omega
          have hst : Hid (LandL2 w B w.heap.size [.slice a0 L.st.length c0, .slice a1 L.ri.length c1, .slice a2 L.ca.length c2, .slice a3 L.su.length c3] L (.int .i64 0) wr) := Lib.hid ⟨0, Nat.zero_le _, rfl, v0, v1, v2, v3, vs, hW⟩
          clear hW ho hlo hbw y0 z0 hsz
          go_wp2
          clear x0
          obtain ⟨w3, rfl⟩ : ∃ w3, w3 = wr := ⟨wr, rfl⟩
          go_loopw [7] (fun n wr => LandL2 w B w.heap.size [.slice a0 L.st.length c0, .slice a1 L.ri.length c1, .slice a2 L.ca.length c2, .slice a3 L.su.length c3] L n wr) (fun n _ => L.ca.length - (intOf n).toNat)
          case atStart => exact hst.out
          case round =>
            clear hst
            obtain ⟨m, hm, rfl, v0, v1, v2, v3, vs, hW⟩ := hrel
            have x0 := hW.b 2 _ rfl
            have y0 := hW.f 2 _ rfl
            have z0 := hW.z 2 (by omega)
            have hsz := hW.sz
            have hbw := hW.bel
            by_cases hlt : m < L.ca.length
            · have hx := List.getElem?_eq_getElem hlt
              obtain ⟨b, o, A', c', hA, hcell, hle, h7, hrow⟩ := (HR.out.ca.kept (kept_of_below hbw)) m _ hx
              have hl := cell_lt hcell
              generalize L.ca[m] = x at *
              simp only at hA hl
              subst hA
              have ho : wr.ownsRow B 80 1 v2 m vs := by have h0 := hW.o2; rwa [show (L.ca.take m).length = m by rw [List.length_take]; omega] at h0
              have HX := Lib.hid (take_snoc' hx)
              replace hW := Lib.hid hW
              replace ho := Lib.hid ho
              replace hbw := Lib.hid hbw
              replace hrow := Lib.hid hrow
              clear hx
              go_wp2
              go_region_law (first | (go_simp; go_at_call 30; refine (HC.out _ _ _ _ (by first | exact hrow.out | exact hrow.out.kept (kept_of_below (by (repeat (first | exact Below.refl _ _ | (with_reducible exact Hid.out (by assumption)) | refine below_al ?_ _ | refine below_dr ?_ | refine below_tr ?_ (by assumption) | refine below_tr ?_ (Bel.out (by assumption)) | refine below_tr ?_ (Bel.out (ov_bel _ _)) | refine below_set ?_ (by simp; try omega)))))) h7).mono ?_; rintro e w' ⟨vv, rfl, hov, hb⟩; obtain ⟨A2, c2', rfl⟩ := owns_form hov; have y0' : w'.cell? ⟨w.heap.size + 1 + 1, 2, none⟩ = some v2 := kept_of_below hb _ _ y0; have hz0 : wr.heap.size ≤ w'.heap.size := (by have := hb.size; simp at this; omega); have n1 : ¬ w.heap.size + 1 + 1 = w'.heap.size := (by omega); replace hov := Lib.hid (owns_mono hov (show B ≤ _ by first | exact hsz | (simp; omega)))) | (refine step_append_ownZ rfl (.tmp 61) (.tmp 68) 37 rfl B 80 i2 (.slice none 0 0) 1 24 Try.underlying37 hi2 hc0 hc1 hc2 rfl (by decide) v2 m _ (by simp [Act.eval, Act.put]) (owns_below ho.out (by (repeat (first | exact Below.refl _ _ | (with_reducible exact Hid.out (by assumption)) | refine below_al ?_ _ | refine below_dr ?_ | refine below_tr ?_ (by assumption) | refine below_tr ?_ (Bel.out (by assumption)) | refine below_tr ?_ (Bel.out (ov_bel _ _)) | refine below_set ?_ (by simp; try omega))))) ⟨w'.heap.size, 0, none⟩ 1 1 [.slice A2 x.length c2'] (by simp [Act.eval, Act.put]) rfl (cells_newB (by simp) rfl) (owns_one hov.out) (by unfold maxLen; omega) (by omega) (by simp; omega) ?_; intro v' w4 hown4 hgrow; obtain ⟨g4, cap4, rfl⟩ := ownsRow_succ hown4; obtain ⟨k0, k1, hfin⟩ := hW.out.step2 (by (repeat (first | exact Below.refl _ _ | (with_reducible exact Hid.out (by assumption)) | refine below_al ?_ _ | refine below_dr ?_ | refine below_tr ?_ (by assumption) | refine below_tr ?_ (Bel.out (by assumption)) | refine below_tr ?_ (Bel.out (ov_bel _ _)) | refine below_set ?_ (by simp; try omega)))) (by omega) (Nat.le_refl _) x _ (hov.out.alloc _) hgrow (by rw [List.length_take]; omega) hown4; clear hgrow hown4))
              all_goals
                clear hW ho hbw x0 y0 z0 hcell k0 k1
                go_wp2
                go_roundw
                case rel => exact ⟨m + 1, by omega, by go_num, _, _, _, v3, _, by rw [HX.out]; exact hfin.out⟩
                case measure => simp [intOf]; omega
            · obtain rfl : m = L.ca.length := by omega
              have hst : Hid (LandL3 w B w.heap.size [.slice a0 L.st.length c0, .slice a1 L.ri.length c1, .slice a2 L.ca.length c2, .slice a3 L.su.length c3] L (.int .i64 0) wr) := Lib.hid ⟨0, Nat.zero_le _, rfl, v0, v1, v2, v3, vs, hW⟩
              clear hW hbw y0 z0 hsz
              go_wp2
              clear x0
              obtain ⟨w5, rfl⟩ : ∃ w5, w5 = wr := ⟨wr, rfl⟩
              go_loopw [8] (fun n wr => LandL3 w B w.heap.size [.slice a0 L.st.length c0, .slice a1 L.ri.length c1, .slice a2 L.ca.length c2, .slice a3 L.su.length c3] L n wr) (fun n _ => L.su.length - (intOf n).toNat)
              case atStart => exact hst.out
              case round =>
                clear hst
                obtain ⟨m, hm, rfl, v0, v1, v2, v3, vs, hW⟩ := hrel
                have x0 := hW.b 3 _ rfl
                have y0 := hW.f 3 _ rfl
                have z0 := hW.z 3 (by omega)
                have hsz := hW.sz
                have hbw := hW.bel
                by_cases hlt : m < L.su.length
                · have hx := List.getElem?_eq_getElem hlt
                  obtain ⟨b, o, hA, e0, e1, e2⟩ := (HR.out.su.kept (kept_of_below hbw)).sun hx
                  have hl := cell_lt e0
                  have hlb : b < w.heap.size := by obtain ⟨b', o', hA', q0, _⟩ := HR.out.su.sun hx; rw [hA] at hA'; cases hA'; exact cell_lt q0
                  have hlo := Lib.hid (fun k hk => (hW.o3.lt k hk).1)
                  generalize L.su[m] = x at *
                  simp only at hA hl
                  subst hA
                  obtain ⟨xe, xn, xu⟩ := x
                  simp only at e0 e1 e2
                  have ho : wr.ownsRow B 84 3 v3 m ((L.su.take m).flatMap encSun) := by have h0 := hW.o3; rwa [show (L.su.take m).length = m by rw [List.length_take]; omega] at h0
                  have HX := Lib.hid (take_snoc' hx)
                  replace hW := Lib.hid hW
                  replace ho := Lib.hid ho
                  replace hbw := Lib.hid hbw
                  clear hx
                  have n1 : ¬ w.heap.size + 1 + 1 = wr.heap.size := by omega
                  have n2 : b < w.heap.size := hlb
                  go_wp2
                  obtain ⟨v', w4, hrun, hown4, hgrow, _⟩ := run_append_own (P := Try.prog) (wr.drew.alloc (.cells #[.int .i64 xe, .int .i64 xn, .int .i64 xu] 84)) B 38 38 84 i3 (.agg #[.int .i64 0, .int .i64 0, .int .i64 0]) 3 24 Try.underlying38 hi3 hs0 hs1 hs2 rfl (by decide) v3 m _ (owns_below ho.out (by (repeat (first | exact Below.refl _ _ | (with_reducible exact Hid.out (by assumption)) | refine below_al ?_ _ | refine below_dr ?_ | refine below_tr ?_ (by assumption) | refine below_tr ?_ (Bel.out (by assumption)) | refine below_tr ?_ (Bel.out (ov_bel _ _)) | refine below_set ?_ (by simp; try omega))))) ⟨wr.heap.size, 0, none⟩ 1 1 (encSun ⟨xe, xn, xu⟩) rfl (cells_newB (by simp) rfl) (one_sun _) (by unfold maxLen; omega) (by omega) (by simp; omega)
                  obtain ⟨g4, cap4, rfl⟩ := ownsRow_succ hown4
                  obtain ⟨k0, k1, hfin⟩ := hW.out.step3 (by (repeat (first | exact Below.refl _ _ | (with_reducible exact Hid.out (by assumption)) | refine below_al ?_ _ | refine below_dr ?_ | refine below_tr ?_ (by assumption) | refine below_tr ?_ (Bel.out (by assumption)) | refine below_tr ?_ (Bel.out (ov_bel _ _)) | refine below_set ?_ (by simp; try omega)))) (by omega) (Nat.le_refl _) ⟨xe, xn, xu⟩ hgrow (by rw [List.length_take]; omega) hown4
                  replace hrun := Lib.hid hrun
                  clear hgrow hown4 hW ho hbw hlo
                  refine (wpIn_wide (n := 9)).1 ?_
                  refine wpIn_region_any (by kernel_rfl) ?_
                  go_simp
                  (refine wpAnyIn_take (i := 0) (v := .pointer (some ⟨w.heap.size + 1 + 1, 3, none⟩)) rfl rfl (by kernel_rfl) (by kernel_rfl) (by kernel_rfl) (fun _ _ _ h => h) ⟨Or.inl ⟨by rfl, fun w => by go_simp⟩, fun _ => rfl⟩ ?_; go_simp)
                  (refine wpAnyIn_takeL (i := 1) (v := v3) (⟨w.heap.size + 1 + 1, 3, none⟩) (v3) rfl rfl (by kernel_rfl) (by kernel_rfl) (by kernel_rfl) (by kernel_rfl) (fun _ _ _ h => h) (by go_simp) ⟨by rfl, fun w hw => by go_simp, fun _ => rfl⟩ ?_; go_simp)
                  (refine wpAnyIn_take (i := 2) (v := .pointer (some ⟨w.heap.size, 3, none⟩)) rfl rfl (by kernel_rfl) (by kernel_rfl) (by kernel_rfl) (fun _ _ _ h => h) ⟨Or.inl ⟨by rfl, fun w => by go_simp⟩, fun _ => rfl⟩ ?_; go_simp)
                  (refine wpAnyIn_takeL (i := 3) (v := .slice (some ⟨b, o, none⟩) L.su.length c3) (⟨w.heap.size, 3, none⟩) (.slice (some ⟨b, o, none⟩) L.su.length c3) rfl rfl (by kernel_rfl) (by kernel_rfl) (by kernel_rfl) (by kernel_rfl) (fun _ _ _ h => h) (by go_simp) ⟨by rfl, fun w hw => by go_simp, fun _ => rfl⟩ ?_; go_simp)
                  (refine wpAnyIn_take (i := 4) (v := .int .i64 m) rfl rfl (by kernel_rfl) (by kernel_rfl) (by kernel_rfl) (fun _ _ _ h => h) ⟨Or.inl ⟨by rfl, fun w => by go_simp⟩, fun _ => rfl⟩ ?_; go_simp)
                  (refine wpAnyIn_take (i := 5) (v := .pointer (some ⟨b, o + m * 3, none⟩)) rfl rfl (by kernel_rfl) (by kernel_rfl) (by kernel_rfl) (fun _ _ _ h => h) ⟨Or.inl ⟨by rfl, fun w => by go_simp⟩, fun _ => rfl⟩ ?_; go_simp)
                  (refine wpAnyIn_take (i := 6) (v := .pointer (some ⟨b, o + m * 3, none⟩)) rfl rfl (by kernel_rfl) (by kernel_rfl) (by kernel_rfl) (fun _ _ _ h => h) ⟨Or.inl ⟨by rfl, fun w => by go_simp⟩, fun _ => rfl⟩ ?_; go_simp)
                  (refine wpAnyIn_takeL (i := 7) (v := .int .i64 xe) (⟨b, o + m * 3, none⟩) (.int .i64 xe) rfl rfl (by kernel_rfl) (by kernel_rfl) (by kernel_rfl) (by kernel_rfl) (fun _ _ _ h => h) (by go_simp) ⟨by rfl, fun w hw => by go_simp, fun _ => rfl⟩ ?_; go_simp)
                  (refine wpAnyIn_take (i := 8) (v := .pointer (some ⟨w.heap.size, 3, none⟩)) rfl rfl (by kernel_rfl) (by kernel_rfl) (by kernel_rfl) (fun _ _ _ h => h) ⟨Or.inl ⟨by rfl, fun w => by go_simp⟩, fun _ => rfl⟩ ?_; go_simp)
                  (refine wpAnyIn_takeL (i := 9) (v := .slice (some ⟨b, o, none⟩) L.su.length c3) (⟨w.heap.size, 3, none⟩) (.slice (some ⟨b, o, none⟩) L.su.length c3) rfl rfl (by kernel_rfl) (by kernel_rfl) (by kernel_rfl) (by kernel_rfl) (fun _ _ _ h => h) (by go_simp) ⟨by rfl, fun w hw => by go_simp, fun _ => rfl⟩ ?_; go_simp)
                  (refine wpAnyIn_take (i := 10) (v := .int .i64 m) rfl rfl (by kernel_rfl) (by kernel_rfl) (by kernel_rfl) (fun _ _ _ h => h) ⟨Or.inl ⟨by rfl, fun w => by go_simp⟩, fun _ => rfl⟩ ?_; go_simp)
                  (refine wpAnyIn_take (i := 11) (v := .pointer (some ⟨b, o + m * 3, none⟩)) rfl rfl (by kernel_rfl) (by kernel_rfl) (by kernel_rfl) (fun _ _ _ h => h) ⟨Or.inl ⟨by rfl, fun w => by go_simp⟩, fun _ => rfl⟩ ?_; go_simp)
                  (refine wpAnyIn_take (i := 12) (v := .pointer (some ⟨b, o + m * 3 + 1, none⟩)) rfl rfl (by kernel_rfl) (by kernel_rfl) (by kernel_rfl) (fun _ _ _ h => h) ⟨Or.inl ⟨by rfl, fun w => by go_simp⟩, fun _ => rfl⟩ ?_; go_simp)
                  (refine wpAnyIn_takeL (i := 13) (v := .int .i64 xn) (⟨b, o + m * 3 + 1, none⟩) (.int .i64 xn) rfl rfl (by kernel_rfl) (by kernel_rfl) (by kernel_rfl) (by kernel_rfl) (fun _ _ _ h => h) (by go_simp) ⟨by rfl, fun w hw => by go_simp, fun _ => rfl⟩ ?_; go_simp)
                  (refine wpAnyIn_take (i := 14) (v := .pointer (some ⟨w.heap.size, 3, none⟩)) rfl rfl (by kernel_rfl) (by kernel_rfl) (by kernel_rfl) (fun _ _ _ h => h) ⟨Or.inl ⟨by rfl, fun w => by go_simp⟩, fun _ => rfl⟩ ?_; go_simp)
                  (refine wpAnyIn_takeL (i := 15) (v := .slice (some ⟨b, o, none⟩) L.su.length c3) (⟨w.heap.size, 3, none⟩) (.slice (some ⟨b, o, none⟩) L.su.length c3) rfl rfl (by kernel_rfl) (by kernel_rfl) (by kernel_rfl) (by kernel_rfl) (fun _ _ _ h => h) (by go_simp) ⟨by rfl, fun w hw => by go_simp, fun _ => rfl⟩ ?_; go_simp)
                  (refine wpAnyIn_take (i := 16) (v := .int .i64 m) rfl rfl (by kernel_rfl) (by kernel_rfl) (by kernel_rfl) (fun _ _ _ h => h) ⟨Or.inl ⟨by rfl, fun w => by go_simp⟩, fun _ => rfl⟩ ?_; go_simp)
                  (refine wpAnyIn_take (i := 17) (v := .pointer (some ⟨b, o + m * 3, none⟩)) rfl rfl (by kernel_rfl) (by kernel_rfl) (by kernel_rfl) (fun _ _ _ h => h) ⟨Or.inl ⟨by rfl, fun w => by go_simp⟩, fun _ => rfl⟩ ?_; go_simp)
                  (refine wpAnyIn_take (i := 18) (v := .pointer (some ⟨b, o + m * 3 + 2, none⟩)) rfl rfl (by kernel_rfl) (by kernel_rfl) (by kernel_rfl) (fun _ _ _ h => h) ⟨Or.inl ⟨by rfl, fun w => by go_simp⟩, fun _ => rfl⟩ ?_; go_simp)
                  (refine wpAnyIn_takeL (i := 19) (v := .int .i64 xu) (⟨b, o + m * 3 + 2, none⟩) (.int .i64 xu) rfl rfl (by kernel_rfl) (by kernel_rfl) (by kernel_rfl) (by kernel_rfl) (fun _ _ _ h => h) (by go_simp) ⟨by rfl, fun w hw => by go_simp, fun _ => rfl⟩ ?_; go_simp)
                  (refine wpAnyIn_take (i := 20) (v := .agg #[.int .i64 xe, .int .i64 xn, .int .i64 xu]) rfl rfl (by kernel_rfl) (by kernel_rfl) (by kernel_rfl) (fun _ _ _ h => h) ⟨Or.inl ⟨by rfl, fun w => by go_simp⟩, fun _ => rfl⟩ ?_; go_simp)
                  (refine wpAnyIn_wantW (i := 21) (by kernel_rfl) rfl (by kernel_rfl) (fun K hK => ?_); go_simp; (repeat (simp only [↓IntWalk.iteOmega]; (try go_simp))); (try go_bits); try (refine hK _ _ ?_; clear hK K))
                  refine wpAnyIn_wantW (i := 22) (by kernel_rfl) rfl (by kernel_rfl) (fun K hK => ?_)
                  refine oper_append_run (.tmp 79) (.tmp 99) 38 rfl _ _ rfl rfl _ _ hrun.out ?_
                  refine hK _ _ ?_; clear hK K
                  (refine wpAnyIn_wantW (i := 23) (by kernel_rfl) rfl (by kernel_rfl) (fun K hK => ?_); go_simp; (repeat (simp only [↓IntWalk.iteOmega]; (try go_simp))); (try go_bits); try (refine hK _ _ ?_; clear hK K))
                  (refine wpAnyIn_wantW (i := 24) (by kernel_rfl) rfl (by kernel_rfl) (fun K hK => ?_); go_simp; (repeat (simp only [↓IntWalk.iteOmega]; (try go_simp))); (try go_bits); try (refine hK _ _ ?_; clear hK K))
                  (refine wpAnyIn_done (by kernel_rfl) ?_ _)
                  clear x0 y0 z0 e0 e1 e2 k0 k1
                  go_wp2
                  go_roundw
                  case rel => exact ⟨m + 1, by omega, by go_num, _, _, _, _, _, by rw [HX.out]; exact hfin.out⟩
                  case measure => simp [intOf]; omega
                · obtain rfl : m = L.su.length := by omega
                  obtain ⟨A0, q0, rfl⟩ := owns_form hW.o0
                  obtain ⟨A1, q1, rfl⟩ := owns_form hW.o1
                  obtain ⟨A2, q2, rfl⟩ := owns_form hW.o2
                  obtain ⟨A3, q3, rfl⟩ := owns_form hW.o3
                  have y0 := hW.f 0 _ rfl
                  have y1 := hW.f 1 _ rfl
                  have y2 := hW.f 2 _ rfl
                  have y3 := hW.f 3 _ rfl
                  have r0 := hW.g 0 _ rfl
                  have r1 := hW.g 1 _ rfl
                  have r2 := hW.g 2 _ rfl
                  have r3 := hW.g 3 _ rfl
                  have s0 := hW.gz 0 (by omega)
                  have s1 := hW.gz 1 (by omega)
                  have s2 := hW.gz 2 (by omega)
                  have s3 := hW.gz 3 (by omega)
                  have hsz4 := (hW.g.kept (Kept.refl _)) 0 _ rfl
                  replace hW := Lib.hid hW
                  clear z0 hbw hsz4
                  go_wp2
                  have hd := hW.out
                  rw [List.take_length, List.take_length, List.take_length, List.take_length] at hd
                  obtain ⟨hcs, hrd, hbl⟩ := hd.done l0 l1 l2 l3 (fun i l hl => by obtain ⟨_, _, _, _, _, _, _, h7, _⟩ := HR.out.ca i l hl; exact h7) (by omega) (Nat.le_refl _)
                  generalize World.setCell (World.setCell (World.setCell (World.setCell wr _ _) _ _) _ _) _ _ = Wf at *
                  have f0 := hcs 0 _ rfl
                  have f1 := hcs 1 _ rfl
                  have f2 := hcs 2 _ rfl
                  have f3 := hcs 3 _ rfl
                  refine bodyPost_ret (v := .agg #[.slice A0 L.st.length q0, .slice A1 L.ri.length q1, .slice A2 L.ca.length q2, .slice A3 L.su.length q3]) (by simp [results, Try.results11, go_sem, f0, f1, f2, f3]) rfl ?_
                  exact ⟨_, rfl, hrd, hbl⟩
end Go.Proofs.Ytdfohielnfdmkaa

