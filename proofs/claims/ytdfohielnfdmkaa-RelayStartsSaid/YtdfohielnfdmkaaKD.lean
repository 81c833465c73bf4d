/- Part KD of the proof: W7. -/
import Derived.Deep.DeepCutAuto
import Derived.Deep.RegionWith
import Derived.Deep.RegionHeld3
import Derived.Test.YtdfohielnfdmkaaKC
set_option linter.unusedVariables false
set_option linter.unusedSimpArgs false
/- Walks: whether a wall blocks (package hill). -/
set_option linter.unusedVariables false
set_option linter.unusedSimpArgs false
namespace Go.Proofs.Ytdfohielnfdmkaa
open Go.RowKit
attribute [local go_sem low] cell_alloc_ite frozen_alloc_ite

/-- Where the two places of the stations lie, beside the parameters' boxes and the ends' ones. -/
def BlkRel (w : World) (P : Nat) (x : Wal) (a c : Sta) (v9 v10 : Value) (wc : World) : Prop :=
  ∃ b9 b10 : Nat, v9 = .pointer (some ⟨b9, 0, none⟩) ∧ v10 = .pointer (some ⟨b10, 0, none⟩) ∧ Below w.heap.size w wc ∧ w.heap.size + 3 ≤ wc.heap.size ∧ b9 < wc.heap.size ∧ b10 < wc.heap.size ∧ P + 2 ≤ wc.heap.size ∧
    CellsAt wc w.heap.size (encWal x) ∧ CellsAt wc (w.heap.size + 1) (encSta a) ∧ CellsAt wc (w.heap.size + 1 + 1) (encSta c) ∧
    CellsAt wc P [.int .i64 x.x1, .int .i64 x.y1] ∧ CellsAt wc (P + 1) [.int .i64 x.x2, .int .i64 x.y2] ∧ CellsAt wc b9 [.int .i64 a.x, .int .i64 a.y] ∧ CellsAt wc b10 [.int .i64 c.x, .int .i64 c.y]

def blkC (far other s t az cz b tp : Int) : Bool :=
  if far = 0 ∨ other = 0 ∨ decide (0 < far) = decide (0 < other) then false
  else if (0 < s ∧ 0 < t) ∨ (s < 0 ∧ t < 0) then false
  else decide (0 ≤ aboveI az cz (absI far) (absI other) b) && decide (aboveI az cz (absI far) (absI other) tp ≤ 0)
def blocksB (x : Wal) (a c : Sta) : Bool :=
  blkC (sideI x.x1 x.y1 x.x2 x.y2 a.x a.y) (sideI x.x1 x.y1 x.x2 x.y2 c.x c.y) (sideI a.x a.y c.x c.y x.x1 x.y1) (sideI a.x a.y c.x c.y x.x2 x.y2) a.z c.z x.b x.t
theorem abs_bd {n : Int} (h : -20000 ≤ n ∧ n ≤ 20000) : 0 ≤ absI n ∧ absI n ≤ 20000 := by unfold absI; split <;> omega

theorem BlkRel.mk' {w W0 wc : World} {P : Nat} {x : Wal} {a c : Sta} {b9 b10 : Nat} (hbel : Below w.heap.size w W0) (hs1 : w.heap.size + 3 ≤ P) (hs2 : P + 2 ≤ W0.heap.size)
    (F1 : CellsAt W0 w.heap.size (encWal x)) (F2 : CellsAt W0 (w.heap.size + 1) (encSta a)) (F3 : CellsAt W0 (w.heap.size + 1 + 1) (encSta c)) (F4 : CellsAt W0 P [.int .i64 x.x1, .int .i64 x.y1]) (F5 : CellsAt W0 (P + 1) [.int .i64 x.x2, .int .i64 x.y2])
    (hB : Below W0.heap.size W0 wc) (h9 : CellsAt wc b9 [.int .i64 a.x, .int .i64 a.y]) (h10 : CellsAt wc b10 [.int .i64 c.x, .int .i64 c.y]) :
    BlkRel w P x a c (.pointer (some ⟨b9, 0, none⟩)) (.pointer (some ⟨b10, 0, none⟩)) wc := by
  have hk := kept_of_below hB
  have hz := hB.size
  exact ⟨b9, b10, rfl, rfl, below_tr hbel hB, by omega, cell_lt (h9 0 _ rfl), cell_lt (h10 0 _ rfl), by omega, F1.kept hk, F2.kept hk, F3.kept hk, F4.kept hk, F5.kept hk, h9, h10⟩

set_option maxRecDepth 100000 in
set_option maxHeartbeats 8000000 in
theorem blocks_any (x1 y1 x2 y2 b t ax ay az am cx cy cz cm : Int) (w : World) (hw : walOk ⟨x1, y1, x2, y2, b, t⟩ = true) (ha : staOk ⟨ax, ay, az, am⟩ = true) (hc2 : staOk ⟨cx, cy, cz, cm⟩ = true) :
    Calls Try.prog 106 #[.agg #[.int .i64 x1, .int .i64 y1, .int .i64 x2, .int .i64 y2, .int .i64 b, .int .i64 t], .agg #[.int .i64 ax, .int .i64 ay, .int .i64 az, .int .i64 am], .agg #[.int .i64 cx, .int .i64 cy, .int .i64 cz, .int .i64 cm]] w
      fun e w' => e = .returned (.bool (blocksB ⟨x1, y1, x2, y2, b, t⟩ ⟨ax, ay, az, am⟩ ⟨cx, cy, cz, cm⟩)) ∧ Below w.heap.size w w' := by
  go_enter Try.func106, Try.ntmps106
  go_upto_region 2 with (go_at_call 94; refine (ends_any _ _ _ _ _ _ _).mono ?_; rintro e w' ⟨rfl, hb⟩; obtain ⟨hc, hf⟩ := bcell hb; have hz := hb.size; try simp at hz)
  obtain ⟨W0, hW0, hbel, hs, F1, F2, F3, F4, F5⟩ : ∃ W0, (w'.alloc (.cells #[.int .i64 x1, .int .i64 y1] 144)).alloc (.cells #[.int .i64 x2, .int .i64 y2] 144) = W0 ∧ Below w.heap.size w W0 ∧ (w.heap.size + 3 ≤ w'.heap.size ∧ w'.heap.size + 2 ≤ W0.heap.size) ∧
      CellsAt W0 w.heap.size (encWal ⟨x1, y1, x2, y2, b, t⟩) ∧ CellsAt W0 (w.heap.size + 1) (encSta ⟨ax, ay, az, am⟩) ∧ CellsAt W0 (w.heap.size + 1 + 1) (encSta ⟨cx, cy, cz, cm⟩) ∧ CellsAt W0 w'.heap.size [.int .i64 x1, .int .i64 y1] ∧ CellsAt W0 (w'.heap.size + 1) [.int .i64 x2, .int .i64 y2] :=
    ⟨_, rfl, by (repeat (first | exact Below.refl _ _ | (with_reducible exact Hid.out (by assumption)) | refine below_al ?_ _ | refine below_dr ?_ | refine below_tr ?_ (by assumption) | refine below_tr ?_ (Bel.out (by assumption)) | refine below_tr ?_ (Bel.out (ov_bel _ _)) | refine below_set ?_ (by simp; try omega))), ⟨by omega, by simp⟩, cells6 (by (try go_simp); (repeat (simp only [↓IntWalk.iteOmega]; (try go_simp))); (try omega)) (by (try go_simp); (repeat (simp only [↓IntWalk.iteOmega]; (try go_simp))); (try omega)) (by (try go_simp); (repeat (simp only [↓IntWalk.iteOmega]; (try go_simp))); (try omega)) (by (try go_simp); (repeat (simp only [↓IntWalk.iteOmega]; (try go_simp))); (try omega)) (by (try go_simp); (repeat (simp only [↓IntWalk.iteOmega]; (try go_simp))); (try omega)) (by (try go_simp); (repeat (simp only [↓IntWalk.iteOmega]; (try go_simp))); (try omega)), cells4 (by (try go_simp); (repeat (simp only [↓IntWalk.iteOmega]; (try go_simp))); (try omega)) (by (try go_simp); (repeat (simp only [↓IntWalk.iteOmega]; (try go_simp))); (try omega)) (by (try go_simp); (repeat (simp only [↓IntWalk.iteOmega]; (try go_simp))); (try omega)) (by (try go_simp); (repeat (simp only [↓IntWalk.iteOmega]; (try go_simp))); (try omega)), cells4 (by (try go_simp); (repeat (simp only [↓IntWalk.iteOmega]; (try go_simp))); (try omega)) (by (try go_simp); (repeat (simp only [↓IntWalk.iteOmega]; (try go_simp))); (try omega)) (by (try go_simp); (repeat (simp only [↓IntWalk.iteOmega]; (try go_simp))); (try omega)) (by (try go_simp); (repeat (simp only [↓IntWalk.iteOmega]; (try go_simp))); (try omega)), cells2 (by (try go_simp); (repeat (simp only [↓IntWalk.iteOmega]; (try go_simp))); (try omega)) (by (try go_simp); (repeat (simp only [↓IntWalk.iteOmega]; (try go_simp))); (try omega)), cells2 (by (try go_simp); (repeat (simp only [↓IntWalk.iteOmega]; (try go_simp))); (try omega)) (by (try go_simp); (repeat (simp only [↓IntWalk.iteOmega]; (try go_simp))); (try omega))⟩
  rw [hW0]
  clear hW0 hb hc hf hz
  generalize w'.heap.size = P at *
  obtain ⟨hs1, hs2⟩ := hs
  go_cut [9, 10] (fun v9 v10 wc => BlkRel w P ⟨x1, y1, x2, y2, b, t⟩ ⟨ax, ay, az, am⟩ ⟨cx, cy, cz, cm⟩ v9 v10 wc)
  case first =>
    have e20 := F2 0 _ rfl
    have e21 := F2 1 _ rfl
    have e22 := F2 2 _ rfl
    have e23 := F2 3 _ rfl
    have e30 := F3 0 _ rfl
    have e31 := F3 1 _ rfl
    have e32 := F3 2 _ rfl
    have e33 := F3 3 _ rfl
    replace F1 := Lib.hid F1
    replace F2 := Lib.hid F2
    replace F3 := Lib.hid F3
    replace F4 := Lib.hid F4
    replace F5 := Lib.hid F5
    replace hbel := Lib.hid hbel
    go_region_held3 (fun W => W.cell? ⟨w.heap.size + 1, 0, none⟩ = some (.int .i64 ax) ∧ W.cell? ⟨w.heap.size + 1, 1, none⟩ = some (.int .i64 ay) ∧ W.cell? ⟨w.heap.size + 1, 2, none⟩ = some (.int .i64 az) ∧ W.cell? ⟨w.heap.size + 1, 3, none⟩ = some (.int .i64 am) ∧
        W.cell? ⟨w.heap.size + 1 + 1, 0, none⟩ = some (.int .i64 cx) ∧ W.cell? ⟨w.heap.size + 1 + 1, 1, none⟩ = some (.int .i64 cy) ∧ W.cell? ⟨w.heap.size + 1 + 1, 2, none⟩ = some (.int .i64 cz) ∧ W.cell? ⟨w.heap.size + 1 + 1, 3, none⟩ = some (.int .i64 cm))
      (refine ⟨(by (try go_simp); (repeat (simp only [↓IntWalk.iteOmega]; (try go_simp))); (try omega)), (by (try go_simp); (repeat (simp only [↓IntWalk.iteOmega]; (try go_simp))); (try omega)), (by (try go_simp); (repeat (simp only [↓IntWalk.iteOmega]; (try go_simp))); (try omega)), (by (try go_simp); (repeat (simp only [↓IntWalk.iteOmega]; (try go_simp))); (try omega)), (by (try go_simp); (repeat (simp only [↓IntWalk.iteOmega]; (try go_simp))); (try omega)), (by (try go_simp); (repeat (simp only [↓IntWalk.iteOmega]; (try go_simp))); (try omega)), (by (try go_simp); (repeat (simp only [↓IntWalk.iteOmega]; (try go_simp))); (try omega)), (by (try go_simp); (repeat (simp only [↓IntWalk.iteOmega]; (try go_simp))); (try omega))⟩)
      (first | (go_at_call 81; refine (place_any _ _ _ _ _).mono ?_; rintro e w' ⟨rfl, hb⟩; obtain ⟨hc, hf⟩ := bcell hb; have hz := hb.size; try simp at hz))
    all_goals
      go_wp2_with fail
      go_meet
    all_goals exact BlkRel.mk' hbel.out hs1 hs2 F1.out F2.out F3.out F4.out F5.out (by (repeat (first | exact Below.refl _ _ | (with_reducible exact Hid.out (by assumption)) | refine below_al ?_ _ | refine below_dr ?_ | refine below_tr ?_ (by assumption) | refine below_tr ?_ (Bel.out (by assumption)) | refine below_tr ?_ (Bel.out (ov_bel _ _)) | refine below_set ?_ (by simp; try omega)))) (cells2 (by (try go_simp); (repeat (simp only [↓IntWalk.iteOmega]; (try go_simp))); (try omega)) (by (try go_simp); (repeat (simp only [↓IntWalk.iteOmega]; (try go_simp))); (try omega))) (cells2 (by (try go_simp); (repeat (simp only [↓IntWalk.iteOmega]; (try go_simp))); (try omega)) (by (try go_simp); (repeat (simp only [↓IntWalk.iteOmega]; (try go_simp))); (try omega)))
  case rest =>
    obtain ⟨b9, b10, rfl, rfl, hbel2, hz0, hz1, hz2, hz3, G1, G2, G3, G4, G5, G6, G7⟩ := hcut
    clear F1 F2 F3 F4 F5 hbel hs1 hs2
    have e00 := G1 0 _ rfl
    have e01 := G1 1 _ rfl
    have e02 := G1 2 _ rfl
    have e03 := G1 3 _ rfl
    have e04 := G1 4 _ rfl
    have e05 := G1 5 _ rfl
    have e10 := G2 0 _ rfl
    have e11 := G2 1 _ rfl
    have e12 := G2 2 _ rfl
    have e13 := G2 3 _ rfl
    have e20 := G3 0 _ rfl
    have e21 := G3 1 _ rfl
    have e22 := G3 2 _ rfl
    have e23 := G3 3 _ rfl
    have e30 := G4 0 _ rfl
    have e31 := G4 1 _ rfl
    have e40 := G5 0 _ rfl
    have e41 := G5 1 _ rfl
    have e50 := G6 0 _ rfl
    have e51 := G6 1 _ rfl
    have e60 := G7 0 _ rfl
    have e61 := G7 1 _ rfl
    clear G1 G2 G3 G4 G5 G6 G7
    replace hbel2 := Lib.hid hbel2
    simp only at e00 e01 e02 e03 e04 e05 e10 e11 e12 e13 e20 e21 e22 e23 e30 e31 e40 e41 e50 e51 e60 e61
    simp only [walOk, staOk, Bool.and_eq_true, inR_true, decide_eq_true_eq] at hw ha hc2
    obtain ⟨⟨⟨⟨w1, w2⟩, w3⟩, w4, w5⟩, w6⟩ := hw
    obtain ⟨⟨⟨p1, p2⟩, p3⟩, p4⟩ := ha
    obtain ⟨⟨⟨q1, q2⟩, q3⟩, q4⟩ := hc2
    have o1 : On x1 y1 := on_of w1
    have o2 : On x2 y2 := on_of w2
    have o3 : On ax ay := ⟨p1.1, p1.2, p2.1, p2.2⟩
    have o4 : On cx cy := ⟨q1.1, q1.2, q2.1, q2.2⟩
    clear w1 w2 w3 p1 p2 p4 q1 q2 q4
    have C1 := Lib.hid (fun W => side_on x1 y1 x2 y2 ax ay W o1 o2 o3)
    have C2 := Lib.hid (fun W => side_on x1 y1 x2 y2 cx cy W o1 o2 o4)
    have C3 := Lib.hid (fun W => side_on ax ay cx cy x1 y1 W o3 o4 o1)
    have C4 := Lib.hid (fun W => side_on ax ay cx cy x2 y2 W o3 o4 o2)
    have s1 := side_bd o1 o2 o3
    have s2 := side_bd o1 o2 o4
    clear o1 o2 o3 o4
    have HP : Hid (blocksB ⟨x1, y1, x2, y2, b, t⟩ ⟨ax, ay, az, am⟩ ⟨cx, cy, cz, cm⟩ = blkC (sideI x1 y1 x2 y2 ax ay) (sideI x1 y1 x2 y2 cx cy) (sideI ax ay cx cy x1 y1) (sideI ax ay cx cy x2 y2) az cz b t) := Lib.hid rfl
    generalize sideI x1 y1 x2 y2 ax ay = far at *
    generalize sideI x1 y1 x2 y2 cx cy = other at *
    generalize sideI ax ay cx cy x1 y1 = s at *
    generalize sideI ax ay cx cy x2 y2 = u at *
    by_cases z1 : far = 0
    · have z1' : (far == 0) = true := by simpa using z1
      have HR : Hid (blocksB ⟨x1, y1, x2, y2, b, t⟩ ⟨ax, ay, az, am⟩ ⟨cx, cy, cz, cm⟩ = false) := Lib.hid (by rw [HP.out]; unfold blkC; rw [if_pos (Or.inl z1)])
      clear z1 HP C3 C4
      go_wp2
      (refine wp_region_bel (by kernel_rfl) (by kernel_rfl) ?_; (repeat (first | (refine BigFrame.wpQuiet_want (by rfl) (fun K hK => ?_); unfold Oper.quiet; apply Exists.intro; refine ⟨fun W hW => ?_, hK _ ?_⟩; (focus (have hc := hW.cells; have hf := hW.frozens; have hz := hW.size; (try simp at hz); (go_simp; (repeat (simp only [↓IntWalk.iteOmega]; go_simp)); (try go_bits); first | ((go_at_call 108; first | (with_reducible exact calls_bel hW (C1.out _)) | (with_reducible exact calls_bel hW (C2.out _)))) | rfl))); clear hK K; go_simp) | (refine BigFrame.wpQuiet_skip (by rfl) ?_; go_simp))); refine wpQuiet_nil ?_; intro W hW; have hc := hW.cells; have hf := hW.frozens; have hz := hW.size; (try simp at hz))
      go_wp2
      go_ret
      exact ⟨by rw [HR.out]; rfl, by (repeat (first | exact Below.refl _ _ | (with_reducible exact Hid.out (by assumption)) | refine below_al ?_ _ | refine below_dr ?_ | refine below_tr ?_ (by assumption) | refine below_tr ?_ (Bel.out (by assumption)) | refine below_tr ?_ (Bel.out (ov_bel _ _)) | refine below_set ?_ (by simp; try omega)))⟩
    · have z1' : (far == 0) = false := by simpa using z1
      by_cases z2 : other = 0
      · have z2' : (other == 0) = true := by simpa using z2
        have HR : Hid (blocksB ⟨x1, y1, x2, y2, b, t⟩ ⟨ax, ay, az, am⟩ ⟨cx, cy, cz, cm⟩ = false) := Lib.hid (by rw [HP.out]; unfold blkC; rw [if_pos (Or.inr (Or.inl z2))])
        clear z1 z2 HP C3 C4
        go_wp2
        (refine wp_region_bel (by kernel_rfl) (by kernel_rfl) ?_; (repeat (first | (refine BigFrame.wpQuiet_want (by rfl) (fun K hK => ?_); unfold Oper.quiet; apply Exists.intro; refine ⟨fun W hW => ?_, hK _ ?_⟩; (focus (have hc := hW.cells; have hf := hW.frozens; have hz := hW.size; (try simp at hz); (go_simp; (repeat (simp only [↓IntWalk.iteOmega]; go_simp)); (try go_bits); first | ((go_at_call 108; first | (with_reducible exact calls_bel hW (C1.out _)) | (with_reducible exact calls_bel hW (C2.out _)))) | rfl))); clear hK K; go_simp) | (refine BigFrame.wpQuiet_skip (by rfl) ?_; go_simp))); refine wpQuiet_nil ?_; intro W hW; have hc := hW.cells; have hf := hW.frozens; have hz := hW.size; (try simp at hz))
        go_wp2
        go_ret
        exact ⟨by rw [HR.out]; rfl, by (repeat (first | exact Below.refl _ _ | (with_reducible exact Hid.out (by assumption)) | refine below_al ?_ _ | refine below_dr ?_ | refine below_tr ?_ (by assumption) | refine below_tr ?_ (Bel.out (by assumption)) | refine below_tr ?_ (Bel.out (ov_bel _ _)) | refine below_set ?_ (by simp; try omega)))⟩
      · have z2' : (other == 0) = false := by simpa using z2
        by_cases z3 : decide (0 < far) = decide (0 < other)
        · have HR : Hid (blocksB ⟨x1, y1, x2, y2, b, t⟩ ⟨ax, ay, az, am⟩ ⟨cx, cy, cz, cm⟩ = false) := Lib.hid (by rw [HP.out]; unfold blkC; rw [if_pos (Or.inr (Or.inr z3))])
          by_cases g1 : 0 < far
          · have g2 : 0 < other := by simp [g1] at z3; omega
            clear z1 z2 z3 HP C3 C4
            go_wp2
            (refine wp_region_bel (by kernel_rfl) (by kernel_rfl) ?_; (repeat (first | (refine BigFrame.wpQuiet_want (by rfl) (fun K hK => ?_); unfold Oper.quiet; apply Exists.intro; refine ⟨fun W hW => ?_, hK _ ?_⟩; (focus (have hc := hW.cells; have hf := hW.frozens; have hz := hW.size; (try simp at hz); (go_simp; (repeat (simp only [↓IntWalk.iteOmega]; go_simp)); (try go_bits); first | ((go_at_call 108; first | (with_reducible exact calls_bel hW (C1.out _)) | (with_reducible exact calls_bel hW (C2.out _)))) | rfl))); clear hK K; go_simp) | (refine BigFrame.wpQuiet_skip (by rfl) ?_; go_simp))); refine wpQuiet_nil ?_; intro W hW; have hc := hW.cells; have hf := hW.frozens; have hz := hW.size; (try simp at hz))
            go_wp2
            go_ret
            exact ⟨by rw [HR.out]; rfl, by (repeat (first | exact Below.refl _ _ | (with_reducible exact Hid.out (by assumption)) | refine below_al ?_ _ | refine below_dr ?_ | refine below_tr ?_ (by assumption) | refine below_tr ?_ (Bel.out (by assumption)) | refine below_tr ?_ (Bel.out (ov_bel _ _)) | refine below_set ?_ (by simp; try omega)))⟩
          · have g2 : ¬ 0 < other := by simp [g1] at z3; omega
            have d1 : decide (0 < far) = false := by simpa using g1
            have d2 : decide (0 < other) = false := by simpa using g2
            clear z1 z2 z3 HP C3 C4
            go_wp2
            (refine wp_region_bel (by kernel_rfl) (by kernel_rfl) ?_; (repeat (first | (refine BigFrame.wpQuiet_want (by rfl) (fun K hK => ?_); unfold Oper.quiet; apply Exists.intro; refine ⟨fun W hW => ?_, hK _ ?_⟩; (focus (have hc := hW.cells; have hf := hW.frozens; have hz := hW.size; (try simp at hz); (go_simp; (repeat (simp only [↓IntWalk.iteOmega]; go_simp)); (try go_bits); first | ((go_at_call 108; first | (with_reducible exact calls_bel hW (C1.out _)) | (with_reducible exact calls_bel hW (C2.out _)))) | rfl))); clear hK K; go_simp) | (refine BigFrame.wpQuiet_skip (by rfl) ?_; go_simp))); refine wpQuiet_nil ?_; intro W hW; have hc := hW.cells; have hf := hW.frozens; have hz := hW.size; (try simp at hz))
            go_wp2
            go_ret
            exact ⟨by rw [HR.out]; rfl, by (repeat (first | exact Below.refl _ _ | (with_reducible exact Hid.out (by assumption)) | refine below_al ?_ _ | refine below_dr ?_ | refine below_tr ?_ (by assumption) | refine below_tr ?_ (Bel.out (by assumption)) | refine below_tr ?_ (Bel.out (ov_bel _ _)) | refine below_set ?_ (by simp; try omega)))⟩
        · have HP2 : Hid (blocksB ⟨x1, y1, x2, y2, b, t⟩ ⟨ax, ay, az, am⟩ ⟨cx, cy, cz, cm⟩ = if (0 < s ∧ 0 < u) ∨ (s < 0 ∧ u < 0) then false else decide (0 ≤ aboveI az cz (absI far) (absI other) b) && decide (aboveI az cz (absI far) (absI other) t ≤ 0)) := Lib.hid (by rw [HP.out]; unfold blkC; rw [if_neg (by simp only [not_or]; exact ⟨z1, z2, z3⟩)])
          clear HP
          have B1 := abs_bd s1
          have B2 := abs_bd s2
          have CA := Lib.hid (fun W => aboveBase_any x1 y1 x2 y2 b t ax ay az am cx cy cz cm (absI far) (absI other) W p3 q3 B1 B2 (by omega))
          have CT := Lib.hid (fun W => aboveTop_any x1 y1 x2 y2 b t ax ay az am cx cy cz cm (absI far) (absI other) W p3 q3 B1 B2 (by omega))
          generalize aboveI az cz (absI far) (absI other) b = A1 at *
          generalize aboveI az cz (absI far) (absI other) t = A2 at *
          clear B1 B2
          have gs : (0 < far ∧ ¬ 0 < other) ∨ (¬ 0 < far ∧ 0 < other) := by
            by_cases g1 : 0 < far
            · exact .inl ⟨g1, fun g2 => z3 (by simp [g1, g2])⟩
            · exact .inr ⟨g1, by by_cases g2 : 0 < other; exact g2; exact absurd (by simp [g1, g2]) z3⟩
          clear z1 z2 z3
          rcases gs with ⟨g1, g2⟩ | ⟨g1, g2⟩
          all_goals
            by_cases k1 : (0 < s ∧ 0 < u) ∨ (s < 0 ∧ u < 0)
            · have HR : Hid (blocksB ⟨x1, y1, x2, y2, b, t⟩ ⟨ax, ay, az, am⟩ ⟨cx, cy, cz, cm⟩ = false) := Lib.hid (by rw [HP2.out, if_pos k1])
              clear HP2 CA CT
              rcases k1 with ⟨k1, k2⟩ | ⟨k1, k2⟩
              all_goals
                go_wp2
                (refine wp_region_bel (by kernel_rfl) (by kernel_rfl) ?_; (repeat (first | (refine BigFrame.wpQuiet_want (by rfl) (fun K hK => ?_); unfold Oper.quiet; apply Exists.intro; refine ⟨fun W hW => ?_, hK _ ?_⟩; (focus (have hc := hW.cells; have hf := hW.frozens; have hz := hW.size; (try simp at hz); (go_simp; (repeat (simp only [↓IntWalk.iteOmega]; go_simp)); (try go_bits); first | ((go_at_call 108; first | (with_reducible exact calls_bel hW (C1.out _)) | (with_reducible exact calls_bel hW (C2.out _)))) | rfl))); clear hK K; go_simp) | (refine BigFrame.wpQuiet_skip (by rfl) ?_; go_simp))); refine wpQuiet_nil ?_; intro W hW; have hc := hW.cells; have hf := hW.frozens; have hz := hW.size; (try simp at hz))
                go_wp2
                (refine wp_region_bel (by kernel_rfl) (by kernel_rfl) ?_; (repeat (first | (refine BigFrame.wpQuiet_want (by rfl) (fun K hK => ?_); unfold Oper.quiet; apply Exists.intro; refine ⟨fun W hW => ?_, hK _ ?_⟩; (focus (have hc := hW.cells; have hf := hW.frozens; have hz := hW.size; (try simp at hz); (go_simp; (repeat (simp only [↓IntWalk.iteOmega]; go_simp)); (try go_bits); first | ((go_at_call 108; first | (with_reducible exact calls_bel hW (C3.out _)) | (with_reducible exact calls_bel hW (C4.out _)))) | rfl))); clear hK K; go_simp) | (refine BigFrame.wpQuiet_skip (by rfl) ?_; go_simp))); refine wpQuiet_nil ?_; intro W hW; have hc := hW.cells; have hf := hW.frozens; have hz := hW.size; (try simp at hz))
                go_wp2
                go_ret
                exact ⟨by rw [HR.out]; rfl, by (repeat (first | exact Below.refl _ _ | (with_reducible exact Hid.out (by assumption)) | refine below_al ?_ _ | refine below_dr ?_ | refine below_tr ?_ (by assumption) | refine below_tr ?_ (Bel.out (by assumption)) | refine below_tr ?_ (Bel.out (ov_bel _ _)) | refine below_set ?_ (by simp; try omega)))⟩
            · have HR : Hid (blocksB ⟨x1, y1, x2, y2, b, t⟩ ⟨ax, ay, az, am⟩ ⟨cx, cy, cz, cm⟩ = (decide (0 ≤ A1) && decide (A2 ≤ 0))) := Lib.hid (by rw [HP2.out, if_neg k1])
              clear HP2
              have kk : (0 < s ∧ ¬ 0 < u ∧ ¬ s < 0) ∨ (¬ 0 < s ∧ s < 0 ∧ ¬ u < 0) ∨ (¬ 0 < s ∧ ¬ s < 0) := by omega
              clear k1
              rcases kk with ⟨k1, k2, k3⟩ | ⟨k1, k2, k3⟩ | ⟨k1, k2⟩
              all_goals
                by_cases m1 : 0 ≤ A1
                all_goals
                  go_wp2
                  (refine wp_region_bel (by kernel_rfl) (by kernel_rfl) ?_; (repeat (first | (refine BigFrame.wpQuiet_want (by rfl) (fun K hK => ?_); unfold Oper.quiet; apply Exists.intro; refine ⟨fun W hW => ?_, hK _ ?_⟩; (focus (have hc := hW.cells; have hf := hW.frozens; have hz := hW.size; (try simp at hz); (go_simp; (repeat (simp only [↓IntWalk.iteOmega]; go_simp)); (try go_bits); first | ((go_at_call 108; first | (with_reducible exact calls_bel hW (C1.out _)) | (with_reducible exact calls_bel hW (C2.out _)))) | rfl))); clear hK K; go_simp) | (refine BigFrame.wpQuiet_skip (by rfl) ?_; go_simp))); refine wpQuiet_nil ?_; intro W hW; have hc := hW.cells; have hf := hW.frozens; have hz := hW.size; (try simp at hz))
                  go_wp2
                  (refine wp_region_bel (by kernel_rfl) (by kernel_rfl) ?_; (repeat (first | (refine BigFrame.wpQuiet_want (by rfl) (fun K hK => ?_); unfold Oper.quiet; apply Exists.intro; refine ⟨fun W hW => ?_, hK _ ?_⟩; (focus (have hc := hW.cells; have hf := hW.frozens; have hz := hW.size; (try simp at hz); (go_simp; (repeat (simp only [↓IntWalk.iteOmega]; go_simp)); (try go_bits); first | ((go_at_call 108; first | (with_reducible exact calls_bel hW (C3.out _)) | (with_reducible exact calls_bel hW (C4.out _)))) | rfl))); clear hK K; go_simp) | (refine BigFrame.wpQuiet_skip (by rfl) ?_; go_simp))); refine wpQuiet_nil ?_; intro W hW; have hc := hW.cells; have hf := hW.frozens; have hz := hW.size; (try simp at hz))
                  go_wp2_with (first | (go_at_call 109; refine (abs_any _ _ (by omega)).mono ?_; rintro e w' ⟨rfl, hb⟩; obtain ⟨hc, hf⟩ := bcell hb; have hz := hb.size; try simp at hz) | (go_at_call 112; (first | (with_reducible refine (CA.out _).mono ?_) | (with_reducible refine (CT.out _).mono ?_)); rintro e w' ⟨rfl, hb⟩; obtain ⟨hc, hf⟩ := bcell hb; have hz := hb.size; try simp at hz))
                  go_ret
                  exact ⟨by rw [HR.out]; first | (simp [m1]; done) | (simp; omega), by (repeat (first | exact Below.refl _ _ | (with_reducible exact Hid.out (by assumption)) | refine below_al ?_ _ | refine below_dr ?_ | refine below_tr ?_ (by assumption) | refine below_tr ?_ (Bel.out (by assumption)) | refine below_tr ?_ (Bel.out (ov_bel _ _)) | refine below_set ?_ (by simp; try omega)))⟩
end Go.Proofs.Ytdfohielnfdmkaa

