/- Part KH of the proof: S1 · S2 · S3 · S4 · S5. -/
import Derived.Test.YtdfohielnfdmkaaGreatKG
set_option linter.unusedVariables false
set_option linter.unusedSimpArgs false
/- Walks: the reference of the hill: whether a wall blocks. -/
set_option linter.unusedVariables false
set_option linter.unusedSimpArgs false
namespace Go.Proofs.YtdfohielnfdmkaaGreat
open Go.RowKit
attribute [local go_sem low] cell_alloc_ite frozen_alloc_ite ov_cell ov_frozen

abbrev vSta (s : Sta) : Value := .agg #[.int .i64 s.x, .int .i64 s.y, .int .i64 s.z, .int .i64 s.m]
abbrev vWal (s : Wal) : Value := .agg #[.int .i64 s.x1, .int .i64 s.y1, .int .i64 s.x2, .int .i64 s.y2, .int .i64 s.b, .int .i64 s.t]
theorem in_any (n lo hi : Int) (w : World) : Calls Tryz.prog 49 #[.int .i64 n, .int .i64 lo, .int .i64 hi] w fun e w' => e = .returned (.bool (inR n lo hi)) ∧ w = w' := by
  by_cases h1 : lo ≤ n
  · have hr : inR n lo hi = decide (n ≤ hi) := by unfold inR; rw [show decide (lo ≤ n) = true by simpa using h1]; rfl
    go_enter Tryz.func49, Tryz.ntmps49
    go_wp2
    go_ret
    exact ⟨by first | rfl | (rw [hr]; rfl), rfl⟩
  · have hr : inR n lo hi = false := by unfold inR; rw [show decide (lo ≤ n) = false by simpa using h1]; rfl
    go_enter Tryz.func49, Tryz.ntmps49
    go_wp2
    go_ret
    exact ⟨by first | rfl | (rw [hr]; rfl), rfl⟩
def signI (n : Int) : Int := if 0 < n then 1 else if n < 0 then -1 else 0
theorem sign_any (n : Int) (w : World) : Calls Tryz.prog 188 #[.int .i64 n] w fun e w' => e = .returned (.int .i64 (signI n)) ∧ w = w' := by
  by_cases h1 : 0 < n
  · have hr : signI n = 1 := by unfold signI; rw [if_pos h1]
    go_enter Tryz.func188, Tryz.ntmps188
    go_wp2
    go_ret
    exact ⟨by first | rfl | (rw [hr]; rfl), rfl⟩
  · by_cases h2 : n < 0
    · have hr : signI n = -1 := by unfold signI; rw [if_neg h1, if_pos h2]
      go_enter Tryz.func188, Tryz.ntmps188
      go_wp2
      go_ret
      exact ⟨by first | rfl | (rw [hr]; rfl), rfl⟩
    · have hr : signI n = 0 := by unfold signI; rw [if_neg h1, if_neg h2]
      go_enter Tryz.func188, Tryz.ntmps188
      go_wp2
      go_ret
      exact ⟨by first | rfl | (rw [hr]; rfl), rfl⟩
theorem rside_raw (p0 p1 q0 q1 x0 x1 : Int) (w : World) : Calls Tryz.prog 174 #[.int .i64 p0, .int .i64 p1, .int .i64 q0, .int .i64 q1, .int .i64 x0, .int .i64 x1] w
    fun e w' => e = .returned (.int .i64 (wrap64 (wrap64 (wrap64 (q0 - p0) * wrap64 (x1 - p1)) - wrap64 (wrap64 (q1 - p1) * wrap64 (x0 - p0))))) ∧ w = w' := by
  go_enter Tryz.func174, Tryz.ntmps174
  go_wp2
  go_ret
  exact ⟨rfl, rfl⟩
theorem rside_on (p0 p1 q0 q1 x0 x1 : Int) (w : World) (hp : On p0 p1) (hq : On q0 q1) (hx : On x0 x1) : Calls Tryz.prog 174 #[.int .i64 p0, .int .i64 p1, .int .i64 q0, .int .i64 q1, .int .i64 x0, .int .i64 x1] w
    fun e w' => e = .returned (.int .i64 (sideI p0 p1 q0 q1 x0 x1)) ∧ w = w' := by
  have e : wrap64 (wrap64 (wrap64 (q0 - p0) * wrap64 (x1 - p1)) - wrap64 (wrap64 (q1 - p1) * wrap64 (x0 - p0))) = sideI p0 p1 q0 q1 x0 x1 := by
    unfold On at hp hq hx
    have h1 := mul_bd (a := q0 - p0) (b := x1 - p1) 100 100 (by omega) (by omega)
    have h2 := mul_bd (a := q1 - p1) (b := x0 - p0) 100 100 (by omega) (by omega)
    simp only [Nat.reduceMul] at h1 h2
    rw [IntWalk.wrap64_in (q0 - p0) (by omega), IntWalk.wrap64_in (x1 - p1) (by omega), IntWalk.wrap64_in (q1 - p1) (by omega), IntWalk.wrap64_in (x0 - p0) (by omega)]
    rw [IntWalk.wrap64_in ((q0 - p0) * (x1 - p1)) (by omega), IntWalk.wrap64_in ((q1 - p1) * (x0 - p0)) (by omega)]
    rw [IntWalk.wrap64_in _ (by omega)]; rfl
  rw [← e]
  exact rside_raw p0 p1 q0 q1 x0 x1 w

set_option maxHeartbeats 2000000 in
theorem isWall_any (x1 y1 x2 y2 b t : Int) (w : World) : Calls Tryz.prog 64 #[vWal ⟨x1, y1, x2, y2, b, t⟩] w fun e w' => e = .returned (.bool (walOk ⟨x1, y1, x2, y2, b, t⟩)) ∧ Below w.heap.size w w' := by
  have HI := Lib.hid (fun n lo hi W => in_any n lo hi W)
  have HD : Hid (walOk ⟨x1, y1, x2, y2, b, t⟩ = (inR x1 0 100 && inR y1 0 100 && inR x2 0 100 && inR y2 0 100 && ((x1 != x2) || (y1 != y2)) && inR b 0 t && decide (t ≤ 1000))) := Lib.hid (by
    simp only [walOk, onMap, bne, Bool.and_assoc, Bool.not_and]
    congr 1)
  rcases Bool.eq_false_or_eq_true (inR x1 0 100) with hb0 | hb0
  · rcases Bool.eq_false_or_eq_true (inR y1 0 100) with hb1 | hb1
    · rcases Bool.eq_false_or_eq_true (inR x2 0 100) with hb2 | hb2
      · rcases Bool.eq_false_or_eq_true (inR y2 0 100) with hb3 | hb3
        · rcases Bool.eq_false_or_eq_true (x1 != x2) with hc1 | hc1 <;> rcases Bool.eq_false_or_eq_true (y1 != y2) with hc2 | hc2 <;> rcases Bool.eq_false_or_eq_true (inR b 0 t) with hc3 | hc3
          all_goals
            have hv := HD.out
            simp only [*, Bool.true_and, Bool.false_and, Bool.and_false, Bool.and_true, Bool.not_true, Bool.not_false, Bool.or_true, Bool.true_or, Bool.false_or, Bool.or_false] at hv
            go_enter Tryz.func64, Tryz.ntmps64
            go_wp2_with (go_at_call 49; refine (HI.out _ _ _ _).mono ?_; rintro e w' ⟨rfl, rfl⟩)
            go_ret
            exact ⟨by first | rfl | exact congrArg (fun b => Ending.returned (.bool b)) hv.symm, by (repeat (first | exact Below.refl _ _ | (with_reducible exact Hid.out (by assumption)) | refine below_al ?_ _ | refine below_dr ?_ | refine below_tr ?_ (by assumption) | refine below_tr ?_ (Bel.out (by assumption)) | refine below_tr ?_ (Bel.out (ov_bel _ _)) | refine below_set ?_ (by simp; try omega)))⟩
        · rcases Bool.eq_false_or_eq_true (x1 != x2) with hc1 | hc1 <;> rcases Bool.eq_false_or_eq_true (y1 != y2) with hc2 | hc2 <;> rcases Bool.eq_false_or_eq_true (inR b 0 t) with hc3 | hc3
          all_goals
            have hv := HD.out
            simp only [*, Bool.true_and, Bool.false_and, Bool.and_false, Bool.and_true, Bool.not_true, Bool.not_false, Bool.or_true, Bool.true_or, Bool.false_or, Bool.or_false] at hv
            go_enter Tryz.func64, Tryz.ntmps64
            go_wp2_with (go_at_call 49; refine (HI.out _ _ _ _).mono ?_; rintro e w' ⟨rfl, rfl⟩)
            go_ret
            exact ⟨by first | rfl | exact congrArg (fun b => Ending.returned (.bool b)) hv.symm, by (repeat (first | exact Below.refl _ _ | (with_reducible exact Hid.out (by assumption)) | refine below_al ?_ _ | refine below_dr ?_ | refine below_tr ?_ (by assumption) | refine below_tr ?_ (Bel.out (by assumption)) | refine below_tr ?_ (Bel.out (ov_bel _ _)) | refine below_set ?_ (by simp; try omega)))⟩
      · rcases Bool.eq_false_or_eq_true (x1 != x2) with hc1 | hc1 <;> rcases Bool.eq_false_or_eq_true (y1 != y2) with hc2 | hc2 <;> rcases Bool.eq_false_or_eq_true (inR b 0 t) with hc3 | hc3
        all_goals
          have hv := HD.out
          simp only [*, Bool.true_and, Bool.false_and, Bool.and_false, Bool.and_true, Bool.not_true, Bool.not_false, Bool.or_true, Bool.true_or, Bool.false_or, Bool.or_false] at hv
          go_enter Tryz.func64, Tryz.ntmps64
          go_wp2_with (go_at_call 49; refine (HI.out _ _ _ _).mono ?_; rintro e w' ⟨rfl, rfl⟩)
          go_ret
          exact ⟨by first | rfl | exact congrArg (fun b => Ending.returned (.bool b)) hv.symm, by (repeat (first | exact Below.refl _ _ | (with_reducible exact Hid.out (by assumption)) | refine below_al ?_ _ | refine below_dr ?_ | refine below_tr ?_ (by assumption) | refine below_tr ?_ (Bel.out (by assumption)) | refine below_tr ?_ (Bel.out (ov_bel _ _)) | refine below_set ?_ (by simp; try omega)))⟩
    · rcases Bool.eq_false_or_eq_true (x1 != x2) with hc1 | hc1 <;> rcases Bool.eq_false_or_eq_true (y1 != y2) with hc2 | hc2 <;> rcases Bool.eq_false_or_eq_true (inR b 0 t) with hc3 | hc3
      all_goals
        have hv := HD.out
        simp only [*, Bool.true_and, Bool.false_and, Bool.and_false, Bool.and_true, Bool.not_true, Bool.not_false, Bool.or_true, Bool.true_or, Bool.false_or, Bool.or_false] at hv
        go_enter Tryz.func64, Tryz.ntmps64
        go_wp2_with (go_at_call 49; refine (HI.out _ _ _ _).mono ?_; rintro e w' ⟨rfl, rfl⟩)
        go_ret
        exact ⟨by first | rfl | exact congrArg (fun b => Ending.returned (.bool b)) hv.symm, by (repeat (first | exact Below.refl _ _ | (with_reducible exact Hid.out (by assumption)) | refine below_al ?_ _ | refine below_dr ?_ | refine below_tr ?_ (by assumption) | refine below_tr ?_ (Bel.out (by assumption)) | refine below_tr ?_ (Bel.out (ov_bel _ _)) | refine below_set ?_ (by simp; try omega)))⟩
  · rcases Bool.eq_false_or_eq_true (x1 != x2) with hc1 | hc1 <;> rcases Bool.eq_false_or_eq_true (y1 != y2) with hc2 | hc2 <;> rcases Bool.eq_false_or_eq_true (inR b 0 t) with hc3 | hc3
    all_goals
      have hv := HD.out
      simp only [*, Bool.true_and, Bool.false_and, Bool.and_false, Bool.and_true, Bool.not_true, Bool.not_false, Bool.or_true, Bool.true_or, Bool.false_or, Bool.or_false] at hv
      go_enter Tryz.func64, Tryz.ntmps64
      go_wp2_with (go_at_call 49; refine (HI.out _ _ _ _).mono ?_; rintro e w' ⟨rfl, rfl⟩)
      go_ret
      exact ⟨by first | rfl | exact congrArg (fun b => Ending.returned (.bool b)) hv.symm, by (repeat (first | exact Below.refl _ _ | (with_reducible exact Hid.out (by assumption)) | refine below_al ?_ _ | refine below_dr ?_ | refine below_tr ?_ (by assumption) | refine below_tr ?_ (Bel.out (by assumption)) | refine below_tr ?_ (Bel.out (ov_bel _ _)) | refine below_set ?_ (by simp; try omega)))⟩
end Go.Proofs.YtdfohielnfdmkaaGreat

/- Walks: the reference of the hill: whether a wall crosses, blocks. -/
set_option linter.unusedVariables false
set_option linter.unusedSimpArgs false
namespace Go.Proofs.YtdfohielnfdmkaaGreat
open Go.RowKit
attribute [local go_sem low] cell_alloc_ite frozen_alloc_ite ov_cell ov_frozen

theorem sign_bd (n : Int) : -1 ≤ signI n ∧ signI n ≤ 1 := by unfold signI; split; omega; split <;> omega
theorem sign_mul (a b : Int) : wrap64 (signI a * signI b) = signI a * signI b := by
  have h := mul_bd (a := signI a) (b := signI b) 1 1 (sign_bd a) (sign_bd b)
  simp only [Nat.reduceMul] at h
  exact IntWalk.wrap64_in _ (by omega)
def crossB (x : Wal) (a c : Sta) : Bool :=
  (signI (sideI x.x1 x.y1 x.x2 x.y2 a.x a.y) * signI (sideI x.x1 x.y1 x.x2 x.y2 c.x c.y) == -1) && (signI (sideI a.x a.y c.x c.y x.x1 x.y1) * signI (sideI a.x a.y c.x c.y x.x2 x.y2) != 1)

set_option maxRecDepth 100000 in
set_option maxHeartbeats 8000000 in
theorem crosses_any (x1 y1 x2 y2 b t ax ay az am cx cy cz cm : Int) (w : World) (hw : walOk ⟨x1, y1, x2, y2, b, t⟩ = true) (ha : staOk ⟨ax, ay, az, am⟩ = true) (hc2 : staOk ⟨cx, cy, cz, cm⟩ = true) :
    Calls Tryz.prog 173 #[vWal ⟨x1, y1, x2, y2, b, t⟩, vSta ⟨ax, ay, az, am⟩, vSta ⟨cx, cy, cz, cm⟩] w
      fun e w' => e = .returned (.bool (crossB ⟨x1, y1, x2, y2, b, t⟩ ⟨ax, ay, az, am⟩ ⟨cx, cy, cz, cm⟩)) ∧ Below w.heap.size w w' := by
  obtain ⟨h1, h2, h3, h4⟩ : On x1 y1 ∧ On x2 y2 ∧ On ax ay ∧ On cx cy := by
    simp only [walOk, staOk, Bool.and_eq_true, inR_true] at hw ha hc2
    exact ⟨on_of hw.1.1.1.1, on_of hw.1.1.1.2, ⟨ha.1.1.1.1, ha.1.1.1.2, ha.1.1.2.1, ha.1.1.2.2⟩, ⟨hc2.1.1.1.1, hc2.1.1.1.2, hc2.1.1.2.1, hc2.1.1.2.2⟩⟩
  have HS := Lib.hid (fun W => rside_on x1 y1 x2 y2 ax ay W h1 h2 h3)
  have HT := Lib.hid (fun W => rside_on x1 y1 x2 y2 cx cy W h1 h2 h4)
  have HU := Lib.hid (fun W => rside_on ax ay cx cy x1 y1 W h3 h4 h1)
  have HV := Lib.hid (fun W => rside_on ax ay cx cy x2 y2 W h3 h4 h2)
  have HG := Lib.hid (fun n W => sign_any n W)
  have HC : Hid (crossB ⟨x1, y1, x2, y2, b, t⟩ ⟨ax, ay, az, am⟩ ⟨cx, cy, cz, cm⟩ = ((signI (sideI x1 y1 x2 y2 ax ay) * signI (sideI x1 y1 x2 y2 cx cy) == -1) && (signI (sideI ax ay cx cy x1 y1) * signI (sideI ax ay cx cy x2 y2) != 1))) := Lib.hid rfl
  rw [HC.out]
  clear HC h1 h2 h3 h4 hw ha hc2
  generalize sideI x1 y1 x2 y2 ax ay = s at *
  generalize sideI x1 y1 x2 y2 cx cy = tt at *
  generalize sideI ax ay cx cy x1 y1 = u at *
  generalize sideI ax ay cx cy x2 y2 = v at *
  have hst := sign_mul s tt
  have huv := sign_mul u v
  cases hb : (signI s * signI tt == -1) with
  | true =>
    go_enter Tryz.func173, Tryz.ntmps173
    go_wp2
    (refine wp_region_ov (by kernel_rfl) (by kernel_rfl) (fun R hR => ?_); (repeat (go_big_quiet_step ((go_at_call 174; first | (with_reducible exact calls_ov_same (HS.out _)) | (with_reducible exact calls_ov_same (HT.out _)))))); refine wpQuiet_nil ?_; refine hR.out _ ?_; clear hR R; intro W hW; have hc := hW.cells; have hf := hW.frozens; have hz := hW.size; (try simp at hz))
    go_wp2
    (refine wp_region_ov (by kernel_rfl) (by kernel_rfl) (fun R hR => ?_); (repeat (go_big_quiet_step ((go_at_call 174; first | (with_reducible exact calls_ov_same (HU.out _)) | (with_reducible exact calls_ov_same (HV.out _)))))); refine wpQuiet_nil ?_; refine hR.out _ ?_; clear hR R; intro W hW; have hc := hW.cells; have hf := hW.frozens; have hz := hW.size; (try simp at hz))
    go_wp2_with (go_at_call 188; refine (HG.out _ _).mono ?_; rintro e w' ⟨rfl, rfl⟩)
    go_ret
    exact ⟨by rw [Bool.true_and]; rfl, by (repeat (first | exact Below.refl _ _ | (with_reducible exact Hid.out (by assumption)) | refine below_al ?_ _ | refine below_dr ?_ | refine below_tr ?_ (by assumption) | refine below_tr ?_ (Bel.out (by assumption)) | refine below_tr ?_ (Bel.out (ov_bel _ _)) | refine below_set ?_ (by simp; try omega)))⟩
  | false =>
    clear huv
    go_enter Tryz.func173, Tryz.ntmps173
    go_wp2
    (refine wp_region_ov (by kernel_rfl) (by kernel_rfl) (fun R hR => ?_); (repeat (go_big_quiet_step ((go_at_call 174; first | (with_reducible exact calls_ov_same (HS.out _)) | (with_reducible exact calls_ov_same (HT.out _)))))); refine wpQuiet_nil ?_; refine hR.out _ ?_; clear hR R; intro W hW; have hc := hW.cells; have hf := hW.frozens; have hz := hW.size; (try simp at hz))
    go_wp2
    (refine wp_region_ov (by kernel_rfl) (by kernel_rfl) (fun R hR => ?_); (repeat (go_big_quiet_step ((go_at_call 174; first | (with_reducible exact calls_ov_same (HU.out _)) | (with_reducible exact calls_ov_same (HV.out _)))))); refine wpQuiet_nil ?_; refine hR.out _ ?_; clear hR R; intro W hW; have hc := hW.cells; have hf := hW.frozens; have hz := hW.size; (try simp at hz))
    go_wp2_with (go_at_call 188; refine (HG.out _ _).mono ?_; rintro e w' ⟨rfl, rfl⟩)
    go_ret
    exact ⟨by rw [Bool.false_and]; rfl, by (repeat (first | exact Below.refl _ _ | (with_reducible exact Hid.out (by assumption)) | refine below_al ?_ _ | refine below_dr ?_ | refine below_tr ?_ (by assumption) | refine below_tr ?_ (Bel.out (by assumption)) | refine below_tr ?_ (Bel.out (ov_bel _ _)) | refine below_set ?_ (by simp; try omega)))⟩

/-- Whether a wall blocks, as the reference has it. -/
def rblkB (x : Wal) (a c : Sta) : Bool :=
  if crossB x a c then
    if sideI x.x1 x.y1 x.x2 x.y2 a.x a.y < 0 then inR (a.z * (sideI x.x1 x.y1 x.x2 x.y2 c.x c.y) + c.z * (-(sideI x.x1 x.y1 x.x2 x.y2 a.x a.y))) (x.b * (-(sideI x.x1 x.y1 x.x2 x.y2 a.x a.y) + sideI x.x1 x.y1 x.x2 x.y2 c.x c.y)) (x.t * (-(sideI x.x1 x.y1 x.x2 x.y2 a.x a.y) + sideI x.x1 x.y1 x.x2 x.y2 c.x c.y))
    else inR (a.z * (-(sideI x.x1 x.y1 x.x2 x.y2 c.x c.y)) + c.z * (sideI x.x1 x.y1 x.x2 x.y2 a.x a.y)) (x.b * (sideI x.x1 x.y1 x.x2 x.y2 a.x a.y - sideI x.x1 x.y1 x.x2 x.y2 c.x c.y)) (x.t * (sideI x.x1 x.y1 x.x2 x.y2 a.x a.y - sideI x.x1 x.y1 x.x2 x.y2 c.x c.y))
  else false
theorem signI_cases (n : Int) : (0 < n ∧ signI n = 1) ∨ (n < 0 ∧ signI n = -1) ∨ (n = 0 ∧ signI n = 0) := by unfold signI; split; left; omega; split; right; left; omega; right; right; omega
theorem rblk_eq (x : Wal) (a c : Sta) : rblkB x a c = blocksB x a c := by
  unfold rblkB blocksB crossB
  generalize sideI x.x1 x.y1 x.x2 x.y2 a.x a.y = s
  generalize sideI x.x1 x.y1 x.x2 x.y2 c.x c.y = t
  generalize sideI a.x a.y c.x c.y x.x1 x.y1 = u
  generalize sideI a.x a.y c.x c.y x.x2 x.y2 = v
  have huv : (signI u * signI v != 1) = !decide ((0 < u ∧ 0 < v) ∨ (u < 0 ∧ v < 0)) := by
    rcases signI_cases u with ⟨h1, h2⟩ | ⟨h1, h2⟩ | ⟨h1, h2⟩ <;> rcases signI_cases v with ⟨h3, h4⟩ | ⟨h3, h4⟩ | ⟨h3, h4⟩ <;> rw [h2, h4] <;> simp <;> omega
  rw [huv]
  unfold blkC
  rcases signI_cases s with ⟨h1, h2⟩ | ⟨h1, h2⟩ | ⟨h1, h2⟩
  · rcases signI_cases t with ⟨h3, h4⟩ | ⟨h3, h4⟩ | ⟨h3, h4⟩
    · rw [h2, h4, if_neg (by simp), if_pos (by right; right; simp [h1, h3])]
    · rw [h2, h4, if_neg (show ¬ (s = 0 ∨ t = 0 ∨ decide (0 < s) = decide (0 < t)) by simp [h1, show ¬ 0 < t by omega]; omega)]
      by_cases hp : (0 < u ∧ 0 < v) ∨ (u < 0 ∧ v < 0)
      · rw [if_neg (by simp [hp]), if_pos hp]
      · rw [if_pos (by simp [hp]), if_neg hp, if_neg (by omega)]
        have e1 : absI s = s := by unfold absI; rw [if_neg (by omega)]
        have e2 : absI t = -t := by unfold absI; rw [if_pos (by omega)]
        rw [e1, e2]
        unfold aboveI inR
        rw [Int.sub_eq_add_neg (a := s)]
        congr 1
        · congr 1; apply propext; constructor <;> intro h <;> omega
        · congr 1; apply propext; constructor <;> intro h <;> omega
    · rw [h2, h4, if_neg (by simp), if_pos (by right; left; exact h3)]
  · rcases signI_cases t with ⟨h3, h4⟩ | ⟨h3, h4⟩ | ⟨h3, h4⟩
    · rw [h2, h4, if_neg (show ¬ (s = 0 ∨ t = 0 ∨ decide (0 < s) = decide (0 < t)) by simp [h3, show ¬ 0 < s by omega]; omega)]
      by_cases hp : (0 < u ∧ 0 < v) ∨ (u < 0 ∧ v < 0)
      · rw [if_neg (by simp [hp]), if_pos hp]
      · rw [if_pos (by simp [hp]), if_neg hp, if_pos h1]
        have e1 : absI s = -s := by unfold absI; rw [if_pos (by omega)]
        have e2 : absI t = t := by unfold absI; rw [if_neg (by omega)]
        rw [e1, e2]
        unfold aboveI inR
        congr 1
        · congr 1; apply propext; constructor <;> intro h <;> omega
        · congr 1; apply propext; constructor <;> intro h <;> omega
    · rw [h2, h4, if_neg (by simp), if_pos (by right; right; simp [show ¬ 0 < s by omega, show ¬ 0 < t by omega])]
    · rw [h2, h4, if_neg (by simp), if_pos (by right; left; exact h3)]
  · rw [h2, if_neg (by simp), if_pos (by left; exact h1)]

theorem blk_bds {x1 y1 x2 y2 b t ax ay az am cx cy cz cm : Int} (hw : walOk ⟨x1, y1, x2, y2, b, t⟩ = true) (ha : staOk ⟨ax, ay, az, am⟩ = true) (hc2 : staOk ⟨cx, cy, cz, cm⟩ = true) :
    (On x1 y1 ∧ On x2 y2 ∧ On ax ay ∧ On cx cy) ∧ (0 ≤ az ∧ az ≤ 1000) ∧ (0 ≤ cz ∧ cz ≤ 1000) ∧ (0 ≤ b ∧ b ≤ 1000) ∧ 0 ≤ t ∧ t ≤ 1000 := by
  simp only [walOk, staOk, Bool.and_eq_true, inR_true, decide_eq_true_eq] at hw ha hc2
  obtain ⟨⟨⟨⟨w1, w2⟩, w3⟩, w4⟩, w5⟩ := hw
  obtain ⟨⟨⟨a1, a2⟩, a3⟩, a4⟩ := ha
  obtain ⟨⟨⟨c1, c2⟩, c3⟩, c4⟩ := hc2
  exact ⟨⟨on_of w1, on_of w2, ⟨a1.1, a1.2, a2.1, a2.2⟩, ⟨c1.1, c1.2, c2.1, c2.2⟩⟩, a3, c3, ⟨w4.1, by omega⟩, by omega, w5⟩

set_option maxRecDepth 100000 in
set_option maxHeartbeats 8000000 in
theorem rblocks_any (x1 y1 x2 y2 b t ax ay az am cx cy cz cm : Int) (w : World) (hw : walOk ⟨x1, y1, x2, y2, b, t⟩ = true) (ha : staOk ⟨ax, ay, az, am⟩ = true) (hc2 : staOk ⟨cx, cy, cz, cm⟩ = true) :
    Calls Tryz.prog 143 #[vWal ⟨x1, y1, x2, y2, b, t⟩, vSta ⟨ax, ay, az, am⟩, vSta ⟨cx, cy, cz, cm⟩] w
      fun e w' => e = .returned (.bool (blocksB ⟨x1, y1, x2, y2, b, t⟩ ⟨ax, ay, az, am⟩ ⟨cx, cy, cz, cm⟩)) ∧ Below w.heap.size w w' := by
  have HCr := Lib.hid (fun W => crosses_any x1 y1 x2 y2 b t ax ay az am cx cy cz cm W hw ha hc2)
  obtain ⟨⟨h1, h2, h3, h4⟩, hz1, hz2, hb1, ht1⟩ := blk_bds hw ha hc2
  have HS := Lib.hid (fun W => rside_on x1 y1 x2 y2 ax ay W h1 h2 h3)
  have HT := Lib.hid (fun W => rside_on x1 y1 x2 y2 cx cy W h1 h2 h4)
  have HR : Hid (blocksB ⟨x1, y1, x2, y2, b, t⟩ ⟨ax, ay, az, am⟩ ⟨cx, cy, cz, cm⟩ = rblkB ⟨x1, y1, x2, y2, b, t⟩ ⟨ax, ay, az, am⟩ ⟨cx, cy, cz, cm⟩) := Lib.hid (rblk_eq _ _ _).symm
  have hbs := side_bd h1 h2 h3
  have hbt := side_bd h1 h2 h4
  have HI := Lib.hid (fun n lo hi W => in_any n lo hi W)
  clear h1 h2 h3 h4 hw ha hc2
  rw [HR.out]
  clear HR
  cases hcb : crossB ⟨x1, y1, x2, y2, b, t⟩ ⟨ax, ay, az, am⟩ ⟨cx, cy, cz, cm⟩ with
  | false =>
    have hv : Hid (rblkB ⟨x1, y1, x2, y2, b, t⟩ ⟨ax, ay, az, am⟩ ⟨cx, cy, cz, cm⟩ = false) := Lib.hid (by unfold rblkB; rw [hcb]; rfl)
    rw [hcb] at HCr
    rw [hv.out]
    clear hv hcb
    go_enter Tryz.func143, Tryz.ntmps143
    go_wp2_with (go_at_call 173; refine (HCr.out _).mono ?_; rintro e w' ⟨rfl, hb⟩; obtain ⟨hc, hf⟩ := bcell hb; have hz := hb.size; try simp at hz)
    go_ret
    exact ⟨rfl, by (repeat (first | exact Below.refl _ _ | (with_reducible exact Hid.out (by assumption)) | refine below_al ?_ _ | refine below_dr ?_ | refine below_tr ?_ (by assumption) | refine below_tr ?_ (Bel.out (by assumption)) | refine below_tr ?_ (Bel.out (ov_bel _ _)) | refine below_set ?_ (by simp; try omega)))⟩
  | true =>
    have hv : Hid (rblkB ⟨x1, y1, x2, y2, b, t⟩ ⟨ax, ay, az, am⟩ ⟨cx, cy, cz, cm⟩ = if sideI x1 y1 x2 y2 ax ay < 0 then inR (az * (sideI x1 y1 x2 y2 cx cy) + cz * (-(sideI x1 y1 x2 y2 ax ay))) (b * (-(sideI x1 y1 x2 y2 ax ay) + sideI x1 y1 x2 y2 cx cy)) (t * (-(sideI x1 y1 x2 y2 ax ay) + sideI x1 y1 x2 y2 cx cy))
      else inR (az * (-(sideI x1 y1 x2 y2 cx cy)) + cz * (sideI x1 y1 x2 y2 ax ay)) (b * (sideI x1 y1 x2 y2 ax ay - sideI x1 y1 x2 y2 cx cy)) (t * (sideI x1 y1 x2 y2 ax ay - sideI x1 y1 x2 y2 cx cy))) := Lib.hid (by unfold rblkB; rw [hcb]; rfl)
    rw [hcb] at HCr
    rw [hv.out]
    clear hv hcb
    generalize sideI x1 y1 x2 y2 ax ay = s at *
    generalize sideI x1 y1 x2 y2 cx cy = tt at *
    by_cases hs : s < 0
    · rw [if_pos hs]
      go_enter Tryz.func143, Tryz.ntmps143
      go_wp2_with (go_at_call 173; refine (HCr.out _).mono ?_; rintro e w' ⟨rfl, hb⟩; obtain ⟨hc, hf⟩ := bcell hb; have hz := hb.size; try simp at hz)
      (refine wp_region_ov (by kernel_rfl) (by kernel_rfl) (fun R hR => ?_); (repeat (go_big_quiet_step ((go_at_call 174; first | (with_reducible exact calls_ov_same (HS.out _)) | (with_reducible exact calls_ov_same (HT.out _)))))); refine wpQuiet_nil ?_; refine hR.out _ ?_; clear hR R; intro W hW; have hc := hW.cells; have hf := hW.frozens; have hz := hW.size; (try simp at hz))
      go_wp2_with fail
      have m1 := mul_bd (a := az) (b := tt) 1000 20000 (by omega) (by omega)
      have m2 := mul_bd (a := cz) (b := -s) 1000 20000 (by omega) (by omega)
      have m3 := mul_bd (a := b) (b := -s + tt) 1000 40000 (by omega) (by omega)
      have m4 := mul_bd (a := t) (b := -s + tt) 1000 40000 (by omega) (by omega)
      simp only [Nat.reduceMul] at m1 m2 m3 m4
      have e1 : wrap64 (wrap64 (az * tt) + wrap64 (cz * -s)) = az * tt + cz * -s := by
        rw [IntWalk.wrap64_in (az * tt) (by omega), IntWalk.wrap64_in (cz * -s) (by omega), IntWalk.wrap64_in _ (by omega)]
      have e2 : wrap64 (b * (-s + tt)) = b * (-s + tt) := IntWalk.wrap64_in _ (by omega)
      have e3 : wrap64 (t * (-s + tt)) = t * (-s + tt) := IntWalk.wrap64_in _ (by omega)
      rw [e1, e2, e3]
      clear m1 m2 m3 m4 e1 e2 e3
      refine (HI.out _ _ _ _).mono ?_
      rintro e w5 ⟨rfl, rfl⟩
      go_wp2
      go_ret
      exact ⟨rfl, by (repeat (first | exact Below.refl _ _ | (with_reducible exact Hid.out (by assumption)) | refine below_al ?_ _ | refine below_dr ?_ | refine below_tr ?_ (by assumption) | refine below_tr ?_ (Bel.out (by assumption)) | refine below_tr ?_ (Bel.out (ov_bel _ _)) | refine below_set ?_ (by simp; try omega)))⟩
    · rw [if_neg hs]
      go_enter Tryz.func143, Tryz.ntmps143
      go_wp2_with (go_at_call 173; refine (HCr.out _).mono ?_; rintro e w' ⟨rfl, hb⟩; obtain ⟨hc, hf⟩ := bcell hb; have hz := hb.size; try simp at hz)
      (refine wp_region_ov (by kernel_rfl) (by kernel_rfl) (fun R hR => ?_); (repeat (go_big_quiet_step ((go_at_call 174; first | (with_reducible exact calls_ov_same (HS.out _)) | (with_reducible exact calls_ov_same (HT.out _)))))); refine wpQuiet_nil ?_; refine hR.out _ ?_; clear hR R; intro W hW; have hc := hW.cells; have hf := hW.frozens; have hz := hW.size; (try simp at hz))
      go_wp2_with fail
      have m1 := mul_bd (a := az) (b := -tt) 1000 20000 (by omega) (by omega)
      have m2 := mul_bd (a := cz) (b := s) 1000 20000 (by omega) (by omega)
      have m3 := mul_bd (a := b) (b := s - tt) 1000 40000 (by omega) (by omega)
      have m4 := mul_bd (a := t) (b := s - tt) 1000 40000 (by omega) (by omega)
      simp only [Nat.reduceMul] at m1 m2 m3 m4
      have e1 : wrap64 (wrap64 (az * -tt) + wrap64 (cz * s)) = az * -tt + cz * s := by
        rw [IntWalk.wrap64_in (az * -tt) (by omega), IntWalk.wrap64_in (cz * s) (by omega), IntWalk.wrap64_in _ (by omega)]
      have e2 : wrap64 (b * (s - tt)) = b * (s - tt) := IntWalk.wrap64_in _ (by omega)
      have e3 : wrap64 (t * (s - tt)) = t * (s - tt) := IntWalk.wrap64_in _ (by omega)
      rw [e1, e2, e3]
      clear m1 m2 m3 m4 e1 e2 e3
      refine (HI.out _ _ _ _).mono ?_
      rintro e w5 ⟨rfl, rfl⟩
      go_wp2
      go_ret
      exact ⟨rfl, by (repeat (first | exact Below.refl _ _ | (with_reducible exact Hid.out (by assumption)) | refine below_al ?_ _ | refine below_dr ?_ | refine below_tr ?_ (by assumption) | refine below_tr ?_ (Bel.out (by assumption)) | refine below_tr ?_ (Bel.out (ov_bel _ _)) | refine below_set ?_ (by simp; try omega)))⟩
end Go.Proofs.YtdfohielnfdmkaaGreat

/- Walks: the reference of the hill: whether the sun is behind. -/
set_option linter.unusedVariables false
set_option linter.unusedSimpArgs false
namespace Go.Proofs.YtdfohielnfdmkaaGreat
open Go.RowKit
attribute [local go_sem low] cell_alloc_ite frozen_alloc_ite ov_cell ov_frozen

def behB (a c : Sta) (s : Sun) : Bool := decide (s.e * (c.x - a.x) + s.n * (c.y - a.y) < 0)
set_option maxRecDepth 100000 in
set_option maxHeartbeats 4000000 in
theorem behind_any (V : LV) (L : Lnd) (i j k : Nat) (a c : Sta) (s : Sun) (w : World) (h : RdL w V L) (ok : Okay L) (hi : L.st[i]? = some a) (hj : L.st[j]? = some c) (hk : L.su[k]? = some s) :
    Calls Tryz.prog 112 #[vLnd V L, .int .i64 i, .int .i64 j, .int .i64 k] w fun e w' => e = .returned (.bool (behB a c s)) ∧ Below w.heap.size w w' := by
  obtain ⟨a0, c0, a1, c1, a2, c2, a3, c3⟩ := V
  obtain ⟨b, o, hA, e0, e1, e2, e3⟩ := h.st.sta hi
  obtain ⟨b', o', hA', f0, f1, f2, f3⟩ := h.st.sta hj
  obtain ⟨b2, o2, hA2, g0, g1, g2⟩ := h.su.sun hk
  have li := (List.getElem?_eq_some_iff.1 hi).1
  have lj := (List.getElem?_eq_some_iff.1 hj).1
  have lk := (List.getElem?_eq_some_iff.1 hk).1
  have hs1 := ok.s1
  have hu1 := ok.u1
  obtain ⟨m1, m2, m3, m4⟩ := mir_bd (ok.st a (List.mem_of_getElem? hi)) (ok.st c (List.mem_of_getElem? hj)) (ok.su s (List.mem_of_getElem? hk))
  have hlb := cell_lt e0
  have hlb2 := cell_lt g0
  simp only at hlb hlb2 hA hA' hA2
  subst hA
  cases hA'
  subst hA2
  clear h ok hi hj hk
  have HM : Hid (behB a c s = decide (s.e * (c.x - a.x) + s.n * (c.y - a.y) < 0)) := Lib.hid rfl
  simp only [vLnd]
  go_enter Tryz.func112, Tryz.ntmps112
  go_upto_region 1 with fail
  go_cut [9, 10, 11] (fun v7 v8 v9 wc => MirRel w a c s v7 v8 v9 wc)
  case first =>
    go_region_held3 (fun W => W.cell? ⟨w.heap.size, 0, none⟩ = some (.slice (some ⟨b, o, none⟩) L.st.length c0) ∧ W.cell? ⟨w.heap.size, 3, none⟩ = some (.slice (some ⟨b2, o2, none⟩) L.su.length c3) ∧
        W.cell? ⟨b, o + i * 4, none⟩ = some (.int .i64 a.x) ∧ W.cell? ⟨b, o + i * 4 + 1, none⟩ = some (.int .i64 a.y) ∧ W.cell? ⟨b, o + i * 4 + 2, none⟩ = some (.int .i64 a.z) ∧ W.cell? ⟨b, o + i * 4 + 3, none⟩ = some (.int .i64 a.m) ∧
        W.cell? ⟨b, o + j * 4, none⟩ = some (.int .i64 c.x) ∧ W.cell? ⟨b, o + j * 4 + 1, none⟩ = some (.int .i64 c.y) ∧ W.cell? ⟨b, o + j * 4 + 2, none⟩ = some (.int .i64 c.z) ∧ W.cell? ⟨b, o + j * 4 + 3, none⟩ = some (.int .i64 c.m) ∧
        W.cell? ⟨b2, o2 + k * 3, none⟩ = some (.int .i64 s.e) ∧ W.cell? ⟨b2, o2 + k * 3 + 1, none⟩ = some (.int .i64 s.n) ∧ W.cell? ⟨b2, o2 + k * 3 + 2, none⟩ = some (.int .i64 s.u))
      (refine ⟨(by (try go_simp); (repeat (simp only [↓IntWalk.iteOmega]; (try go_simp))); (try omega)), (by (try go_simp); (repeat (simp only [↓IntWalk.iteOmega]; (try go_simp))); (try omega)), (by (try go_simp); (repeat (simp only [↓IntWalk.iteOmega]; (try go_simp))); (try omega)), (by (try go_simp); (repeat (simp only [↓IntWalk.iteOmega]; (try go_simp))); (try omega)), (by (try go_simp); (repeat (simp only [↓IntWalk.iteOmega]; (try go_simp))); (try omega)), (by (try go_simp); (repeat (simp only [↓IntWalk.iteOmega]; (try go_simp))); (try omega)), (by (try go_simp); (repeat (simp only [↓IntWalk.iteOmega]; (try go_simp))); (try omega)), (by (try go_simp); (repeat (simp only [↓IntWalk.iteOmega]; (try go_simp))); (try omega)), (by (try go_simp); (repeat (simp only [↓IntWalk.iteOmega]; (try go_simp))); (try omega)), (by (try go_simp); (repeat (simp only [↓IntWalk.iteOmega]; (try go_simp))); (try omega)), (by (try go_simp); (repeat (simp only [↓IntWalk.iteOmega]; (try go_simp))); (try omega)), (by (try go_simp); (repeat (simp only [↓IntWalk.iteOmega]; (try go_simp))); (try omega)), (by (try go_simp); (repeat (simp only [↓IntWalk.iteOmega]; (try go_simp))); (try omega))⟩)
      (first | fail)
    all_goals
      go_wp2_with fail
      go_meet
    all_goals exact ⟨_, _, _, rfl, rfl, rfl, by (repeat (first | exact Below.refl _ _ | (with_reducible exact Hid.out (by assumption)) | refine below_al ?_ _ | refine below_dr ?_ | refine below_tr ?_ (by assumption) | refine below_tr ?_ (Bel.out (by assumption)) | refine below_tr ?_ (Bel.out (ov_bel _ _)) | refine below_set ?_ (by simp; try omega))), cells4 (by (try go_simp); (repeat (simp only [↓IntWalk.iteOmega]; (try go_simp))); (try omega)) (by (try go_simp); (repeat (simp only [↓IntWalk.iteOmega]; (try go_simp))); (try omega)) (by (try go_simp); (repeat (simp only [↓IntWalk.iteOmega]; (try go_simp))); (try omega)) (by (try go_simp); (repeat (simp only [↓IntWalk.iteOmega]; (try go_simp))); (try omega)), cells4 (by (try go_simp); (repeat (simp only [↓IntWalk.iteOmega]; (try go_simp))); (try omega)) (by (try go_simp); (repeat (simp only [↓IntWalk.iteOmega]; (try go_simp))); (try omega)) (by (try go_simp); (repeat (simp only [↓IntWalk.iteOmega]; (try go_simp))); (try omega)) (by (try go_simp); (repeat (simp only [↓IntWalk.iteOmega]; (try go_simp))); (try omega)), cells3 (by (try go_simp); (repeat (simp only [↓IntWalk.iteOmega]; (try go_simp))); (try omega)) (by (try go_simp); (repeat (simp only [↓IntWalk.iteOmega]; (try go_simp))); (try omega)) (by (try go_simp); (repeat (simp only [↓IntWalk.iteOmega]; (try go_simp))); (try omega))⟩
  case rest =>
    obtain ⟨b7, b8, b9, rfl, rfl, rfl, hbel, G1, G2, G3⟩ := hcut
    have x0 := G1 0 _ rfl
    have x1 := G1 1 _ rfl
    have y0 := G2 0 _ rfl
    have y1 := G2 1 _ rfl
    have z0 := G3 0 _ rfl
    have z1 := G3 1 _ rfl
    clear G1 G2 G3 e0 e1 e2 e3 f0 f1 f2 f3 g0 g1 g2
    replace hbel := Lib.hid hbel
    go_wp2
    go_ret
    exact ⟨by rw [HM.out]; rfl, by (repeat (first | exact Below.refl _ _ | (with_reducible exact Hid.out (by assumption)) | refine below_al ?_ _ | refine below_dr ?_ | refine below_tr ?_ (by assumption) | refine below_tr ?_ (Bel.out (by assumption)) | refine below_tr ?_ (Bel.out (ov_bel _ _)) | refine below_set ?_ (by simp; try omega)))⟩
end Go.Proofs.YtdfohielnfdmkaaGreat

/- Walks: the reference of the hill: the walls that block. -/
set_option linter.unusedVariables false
set_option linter.unusedSimpArgs false
namespace Go.Proofs.YtdfohielnfdmkaaGreat
open Go.RowKit
attribute [local go_sem low] cell_alloc_ite frozen_alloc_ite ov_cell ov_frozen

/-- The clouds before m that block. -/
def clTo (xs : List Clo) (a c : Sta) (h : Int) : Nat → List Int
  | 0 => []
  | m + 1 => match xs[m]? with
    | some r => if clB a c h r then clTo xs a c h m ++ [(m : Int)] else clTo xs a c h m
    | none => clTo xs a c h m
theorem clTo_len (xs : List Clo) (a c : Sta) (h : Int) : ∀ m, (clTo xs a c h m).length ≤ m
  | 0 => Nat.le_refl _
  | m + 1 => by
    have := clTo_len xs a c h m
    simp only [clTo]
    split
    · split
      · simp; omega
      · omega
    · omega
theorem clTo_some (xs : List Clo) (a c : Sta) (h : Int) : ∀ m, m ≤ xs.length → (!(clTo xs a c h m).isEmpty) = (xs.take m).any (clB a c h)
  | 0, _ => by simp [clTo]
  | m + 1, hl => by
    have ih := clTo_some xs a c h m (by omega)
    have hm : xs[m]? = some xs[m] := List.getElem?_eq_getElem (by omega)
    rw [List.take_succ_eq_append_getElem (by omega), List.any_append]
    simp only [clTo, hm]
    by_cases hb : clB a c h xs[m] = true
    · simp [hb]
    · have hb' : clB a c h xs[m] = false := by simpa using hb
      simp [hb', ← ih]
theorem clTo_all (xs : List Clo) (a c : Sta) (h : Int) : (!(clTo xs a c h xs.length).isEmpty) = xs.any (clB a c h) := by
  rw [clTo_some xs a c h _ (Nat.le_refl _), List.take_length]
/-- What 'Walls' gives. -/
def WallsMade (L : Lnd) (i j : Nat) (a c : Sta) (xs : List Clo) (h : Int) (w : World) (e : Ending) (w' : World) : Prop :=
  ∃ A B cA cB, e = .returned (.tuple #[.slice A (rgTo L a c L.ri.length).length cA, .slice B (clTo xs a c h xs.length).length cB]) ∧ RowAt w' A 1 encInt (rgTo L a c L.ri.length) ∧ RowAt w' B 1 encInt (clTo xs a c h xs.length) ∧ Below w.heap.size w w'

/-- The boxes of 'Walls'. -/
def WalBox (w : World) (V : LV) (L : Lnd) (a c : Sta) (v12 v13 : Value) (wc : World) : Prop :=
  ∃ b12 b13 : Nat, v12 = .pointer (some ⟨b12, 0, none⟩) ∧ v13 = .pointer (some ⟨b13, 0, none⟩) ∧ Below w.heap.size w wc ∧ CellsAt wc b12 (encSta a) ∧ CellsAt wc b13 (encSta c) ∧
    CellsAt wc w.heap.size [.slice V.a0 L.st.length V.c0, .slice V.a1 L.ri.length V.c1, .slice V.a2 L.ca.length V.c2, .slice V.a3 L.su.length V.c3]

set_option maxRecDepth 100000 in
set_option maxHeartbeats 8000000 in
theorem walls_any (V : LV) (L : Lnd) (i j k h : Nat) (a c : Sta) (xs : List Clo) (w : World) (hr : RdL w V L) (ok : Okay L) (hi : L.st[i]? = some a) (hj : L.st[j]? = some c) (hk : L.ca[k]? = some xs) :
    Calls Tryz.prog 113 #[vLnd V L, .int .i64 i, .int .i64 j, .int .i64 k, .int .i64 h] w (WallsMade L i j a c xs h w) := by
  obtain ⟨a0, c0, a1, c1, a2, c2, a3, c3⟩ := V
  obtain ⟨b, o, hA, e0, e1, e2, e3⟩ := hr.st.sta hi
  obtain ⟨b', o', hA', f0, f1, f2, f3⟩ := hr.st.sta hj
  have li := (List.getElem?_eq_some_iff.1 hi).1
  have lj := (List.getElem?_eq_some_iff.1 hj).1
  have lk := (List.getElem?_eq_some_iff.1 hk).1
  have hs1 := ok.s1
  have hc1 := ok.c1
  have hr1 := ok.r1
  have hlb := cell_lt e0
  simp only at hlb hA hA'
  subst hA
  cases hA'
  have HR := Lib.hid hr
  have OK := Lib.hid ok
  have HI := Lib.hid hi
  have HJ := Lib.hid hj
  have HK := Lib.hid hk
  clear hr ok hi hj hk
  obtain ⟨i0, hi0, hz0, hz1, hz2⟩ := info_parts info_int
  simp only [vLnd]
  go_enter Tryz.func113, Tryz.ntmps113
  go_upto_region 1 with fail
  go_cut [12, 13] (fun v7 v8 wc => WalBox w ⟨some ⟨b, o, none⟩, c0, a1, c1, a2, c2, a3, c3⟩ L a c v7 v8 wc)
  case first =>
    go_region_held3 (fun W => W.cell? ⟨w.heap.size, 0, none⟩ = some (.slice (some ⟨b, o, none⟩) L.st.length c0) ∧
        W.cell? ⟨b, o + i * 4, none⟩ = some (.int .i64 a.x) ∧ W.cell? ⟨b, o + i * 4 + 1, none⟩ = some (.int .i64 a.y) ∧ W.cell? ⟨b, o + i * 4 + 2, none⟩ = some (.int .i64 a.z) ∧ W.cell? ⟨b, o + i * 4 + 3, none⟩ = some (.int .i64 a.m) ∧
        W.cell? ⟨b, o + j * 4, none⟩ = some (.int .i64 c.x) ∧ W.cell? ⟨b, o + j * 4 + 1, none⟩ = some (.int .i64 c.y) ∧ W.cell? ⟨b, o + j * 4 + 2, none⟩ = some (.int .i64 c.z) ∧ W.cell? ⟨b, o + j * 4 + 3, none⟩ = some (.int .i64 c.m))
      (refine ⟨(by (try go_simp); (repeat (simp only [↓IntWalk.iteOmega]; (try go_simp))); (try omega)), (by (try go_simp); (repeat (simp only [↓IntWalk.iteOmega]; (try go_simp))); (try omega)), (by (try go_simp); (repeat (simp only [↓IntWalk.iteOmega]; (try go_simp))); (try omega)), (by (try go_simp); (repeat (simp only [↓IntWalk.iteOmega]; (try go_simp))); (try omega)), (by (try go_simp); (repeat (simp only [↓IntWalk.iteOmega]; (try go_simp))); (try omega)), (by (try go_simp); (repeat (simp only [↓IntWalk.iteOmega]; (try go_simp))); (try omega)), (by (try go_simp); (repeat (simp only [↓IntWalk.iteOmega]; (try go_simp))); (try omega)), (by (try go_simp); (repeat (simp only [↓IntWalk.iteOmega]; (try go_simp))); (try omega)), (by (try go_simp); (repeat (simp only [↓IntWalk.iteOmega]; (try go_simp))); (try omega))⟩)
      (first | fail)
    all_goals
      go_wp2_with fail
      go_meet
    all_goals exact ⟨_, _, rfl, rfl, by (repeat (first | exact Below.refl _ _ | (with_reducible exact Hid.out (by assumption)) | refine below_al ?_ _ | refine below_dr ?_ | refine below_tr ?_ (by assumption) | refine below_tr ?_ (Bel.out (by assumption)) | refine below_tr ?_ (Bel.out (ov_bel _ _)) | refine below_set ?_ (by simp; try omega))), cells4 (by (try go_simp); (repeat (simp only [↓IntWalk.iteOmega]; (try go_simp))); (try omega)) (by (try go_simp); (repeat (simp only [↓IntWalk.iteOmega]; (try go_simp))); (try omega)) (by (try go_simp); (repeat (simp only [↓IntWalk.iteOmega]; (try go_simp))); (try omega)) (by (try go_simp); (repeat (simp only [↓IntWalk.iteOmega]; (try go_simp))); (try omega)), cells4 (by (try go_simp); (repeat (simp only [↓IntWalk.iteOmega]; (try go_simp))); (try omega)) (by (try go_simp); (repeat (simp only [↓IntWalk.iteOmega]; (try go_simp))); (try omega)) (by (try go_simp); (repeat (simp only [↓IntWalk.iteOmega]; (try go_simp))); (try omega)) (by (try go_simp); (repeat (simp only [↓IntWalk.iteOmega]; (try go_simp))); (try omega)), cells4 (by (try go_simp); (repeat (simp only [↓IntWalk.iteOmega]; (try go_simp))); (try omega)) (by (try go_simp); (repeat (simp only [↓IntWalk.iteOmega]; (try go_simp))); (try omega)) (by (try go_simp); (repeat (simp only [↓IntWalk.iteOmega]; (try go_simp))); (try omega)) (by (try go_simp); (repeat (simp only [↓IntWalk.iteOmega]; (try go_simp))); (try omega))⟩
  case rest =>
    obtain ⟨b12, b13, rfl, rfl, hbel, G1, G2, G3⟩ := hcut
    clear e0 e1 e2 e3 f0 f1 f2 f3
    have hlt12 := cell_lt (G1 0 _ rfl)
    have hlt13 := cell_lt (G2 0 _ rfl)
    have hltB := cell_lt (G3 0 _ rfl)
    simp only at hlt12 hlt13 hltB
    have HG1 := Lib.hid G1
    have HG2 := Lib.hid G2
    have HG3 := Lib.hid G3
    replace hbel := Lib.hid hbel
    clear G1 G2 G3
    have hxl := (HR.out.ca k xs HK.out)
    obtain ⟨b3, o3, A3, cx3, hA3, hcell3, hlx, hlx7, hrow3⟩ := hxl
    simp only at hA3
    subst hA3
    have hlc3 := cell_lt hcell3
    simp only at hlc3
    replace hrow3 := Lib.hid hrow3
    replace hcell3 := Lib.hid hcell3
    have HB := Lib.hid (fun (x : Wal) (W : World) (hx : walOk x = true) => rblocks_any x.x1 x.y1 x.x2 x.y2 x.b x.t a.x a.y a.z a.m c.x c.y c.z c.m W hx (OK.out.st a (List.mem_of_getElem? HI.out)) (OK.out.st c (List.mem_of_getElem? HJ.out)))
    go_wp2
    go_loopw [16, 14] (fun n v wr => ∃ m : Nat, m ≤ L.ri.length ∧ n = .int .i64 m ∧ wr.ownsRow wc.heap.size 3 1 v (rgTo L a c m).length ((rgTo L a c m).map (Value.int .i64)) ∧ Below wc.heap.size wc wr) (fun n _ _ => L.ri.length - (intOf n).toNat)
    case atStart => exact ⟨0, Nat.zero_le _, rfl, World.ownsRow_nil _ _ _ _, Below.refl _ _⟩
    case round =>
      obtain ⟨m, hm, rfl, hown, hbm⟩ := hrel
      have hkm := kept_of_below hbm
      have g1 := hkm _ _ (HG3.out 1 _ rfl)
      have p0 := hkm _ _ (HG1.out 0 _ rfl)
      have p1 := hkm _ _ (HG1.out 1 _ rfl)
      have p2 := hkm _ _ (HG1.out 2 _ rfl)
      have p3 := hkm _ _ (HG1.out 3 _ rfl)
      have s0 := hkm _ _ (HG2.out 0 _ rfl)
      have s1 := hkm _ _ (HG2.out 1 _ rfl)
      have s2 := hkm _ _ (HG2.out 2 _ rfl)
      have s3 := hkm _ _ (HG2.out 3 _ rfl)
      have hzm := hbm.size
      by_cases hlt : m < L.ri.length
      · have hx := List.getElem?_eq_getElem hlt
        obtain ⟨b2, o2, hA2, e0, e1, e2, e3, e4, e5⟩ := ((HR.out.below hbel.out).ri.kept hkm).wal hx
        have hok := OK.out.ri _ (List.mem_of_getElem? hx)
        have hl2 := cell_lt e0
        generalize L.ri[m] = x at *
        simp only at hA2 hl2
        subst hA2
        have HX := Lib.hid hx
        clear hx hkm
        simp only [ridOk, Bool.and_eq_true] at hok
        have HC := Lib.hid (fun W => HB.out x W hok.1)
        clear hok
        obtain ⟨x1, y1, x2, y2, xb, xt⟩ := x
        simp only at e0 e1 e2 e3 e4 e5
        replace hbm := Lib.hid hbm
        cases hbl : blocksB ⟨x1, y1, x2, y2, xb, xt⟩ a c with
        | true =>
          simp only [show (⟨a.x, a.y, a.z, a.m⟩ : Sta) = a from rfl, show (⟨c.x, c.y, c.z, c.m⟩ : Sta) = c from rfl, hbl] at HC
          go_wp2
          (refine wp_region_ov (by kernel_rfl) (by kernel_rfl) (fun R hR => ?_); (repeat (go_big_quiet_step ((go_at_call 143; exact calls_ov (HC.out _))))); refine wpQuiet_nil ?_; refine hR.out _ ?_; clear hR R; intro W hW; have hc := hW.cells; have hf := hW.frozens; have hz := hW.size; (try simp at hz))
          have hBW : Below wc.heap.size wc W := hbm.out.trans (hW.out.mono hzm)
          have hown' := owns_below hown (show Below wr.heap.size wr W from hW.out)
          have hzW := hBW.size
          clear p0 p1 p2 p3 s0 s1 s2 s3 e0 e1 e2 e3 e4 e5 g1 hc hf hW
          go_wp2_with (at_builtin; refine wpList_append_own _ rfl _ _ 40 rfl wc.heap.size 3 i0 (.int .i64 0) 1 8 Tryz.underlying40 hi0 hz0 hz1 hz2 rfl (by decide) _ _ _ rfl (hown'.alloc _) ⟨W.heap.size, 0, none⟩ 1 1 [.int .i64 m] rfl rfl ?c1 ?c2 ?c3 ?c4 ?c5 ?_)
          case c1 => exact cell_one_new _ _ _
          case c2 => simp [Value.oneCell']
          case c3 => have := rgTo_len L a c m; unfold maxLen; omega
          case c4 => have := rgTo_len L a c m; omega
          case c5 => simp; omega
          intro v' w1 hown1 hgrow _
          have hlo := hown.lt
          have hB3 : Below wc.heap.size wc w1 := Below.grown (w := W.alloc (.cells #[.int .i64 m] 3)) (hBW.alloc hzW _) hgrow (by simp; omega) (fun k hk => by have := (hlo k hk).1; omega)
          replace hB3 := Lib.hid hB3
          replace hown1 := Lib.hid hown1
          clear hgrow hown' hown hlo hBW
          go_wp2
          go_roundw
          case rel => exact ⟨m + 1, by omega, by go_num, by simp only [rgTo, HX.out, hbl, if_true, List.length_append, List.length_singleton, List.map_append, List.map_cons, List.map_nil]; exact hown1.out, hB3.out⟩
          case measure => simp [intOf]; omega
        | false =>
          simp only [show (⟨a.x, a.y, a.z, a.m⟩ : Sta) = a from rfl, show (⟨c.x, c.y, c.z, c.m⟩ : Sta) = c from rfl, hbl] at HC
          go_wp2
          (refine wp_region_ov (by kernel_rfl) (by kernel_rfl) (fun R hR => ?_); (repeat (go_big_quiet_step ((go_at_call 143; exact calls_ov (HC.out _))))); refine wpQuiet_nil ?_; refine hR.out _ ?_; clear hR R; intro W hW; have hc := hW.cells; have hf := hW.frozens; have hz := hW.size; (try simp at hz))
          have hBW : Below wc.heap.size wc W := hbm.out.trans (hW.out.mono hzm)
          have hown' := owns_below hown (show Below wr.heap.size wr W from hW.out)
          replace hBW := Lib.hid hBW
          replace hown' := Lib.hid hown'
          clear p0 p1 p2 p3 s0 s1 s2 s3 e0 e1 e2 e3 e4 e5 g1 hc hf hW hown
          go_wp2
          go_roundw
          case rel => exact ⟨m + 1, by omega, by go_num, by simp only [rgTo, HX.out, hbl]; exact hown'.out, hBW.out⟩
          case measure => simp [intOf]; omega
      · obtain rfl : m = L.ri.length := by omega
        clear p0 p1 p2 p3 s0 s1 s2 s3
        obtain ⟨w2, rfl⟩ : ∃ w2, w2 = wr := ⟨wr, rfl⟩
        obtain ⟨A1, cA1, hv1, hrowA, hleA, _⟩ := row_of_ints hown
        subst hv1
        have hRA := Lib.hid hrowA
        have hbmH := Lib.hid hbm
        clear hown hrowA hbm hkm
        go_wp2
        go_loopw [17, 15] (fun n v wr => ∃ m : Nat, m ≤ xs.length ∧ n = .int .i64 m ∧ wr.ownsRow w2.heap.size 3 1 v (clTo xs a c h m).length ((clTo xs a c h m).map (Value.int .i64)) ∧ Below w2.heap.size w2 wr) (fun n _ _ => xs.length - (intOf n).toNat)
        case atStart => exact ⟨0, Nat.zero_le _, rfl, World.ownsRow_nil _ _ _ _, Below.refl _ _⟩
        case round =>
          obtain ⟨m, hm, rfl, hown, hbq⟩ := hrel
          have hkm : Kept wc wr := (kept_of_below hbmH.out).trans (kept_of_below hbq)
          have g2 := hkm _ _ (HG3.out 2 _ rfl)
          have y3 := hkm _ _ (kept_of_below hbel.out _ _ hcell3.out)
          have hl3 := cell_lt y3
          have hlg := cell_lt g2
          simp only at hl3 hlg
          have hzq := hbq.size
          by_cases hlt : m < xs.length
          · have hx := List.getElem?_eq_getElem hlt
            obtain ⟨b4, o4, hA4, e0, e1, e2, e3, e4, e5, e6, e7⟩ := ((hrow3.out.kept (kept_of_below hbel.out)).kept hkm).clo hx
            have hok := OK.out.ca xs (List.mem_of_getElem? HK.out) _ (List.mem_of_getElem? hx)
            have hl4 := cell_lt e0
            have p0 := hkm _ _ (HG1.out 0 _ rfl)
            have p1 := hkm _ _ (HG1.out 1 _ rfl)
            have p2 := hkm _ _ (HG1.out 2 _ rfl)
            have p3 := hkm _ _ (HG1.out 3 _ rfl)
            have s0 := hkm _ _ (HG2.out 0 _ rfl)
            have s1 := hkm _ _ (HG2.out 1 _ rfl)
            have s2 := hkm _ _ (HG2.out 2 _ rfl)
            have s3 := hkm _ _ (HG2.out 3 _ rfl)
            generalize xs[m] = x at *
            simp only at hA4 hl4
            subst hA4
            have HX := Lib.hid hx
            clear hx hkm
            simp only [cloOk, Bool.and_eq_true] at hok
            have HC := Lib.hid (fun W => HB.out x.w W hok.1.1)
            clear hok
            have HInn := Lib.hid (fun W => in_any h x.f x.t W)
            have hcl : Hid (clB a c h x = (inR h x.f x.t && blocksB x.w a c)) := Lib.hid rfl
            obtain ⟨⟨x1, y1, x2, y2, xb, xt⟩, xf, xu⟩ := x
            simp only at e0 e1 e2 e3 e4 e5 e6 e7 HInn HC
            replace hbq := Lib.hid hbq
            cases hin : inR h xf xu with
            | false =>
              rw [hin] at HInn
              have hno : Hid (clB a c h ⟨⟨x1, y1, x2, y2, xb, xt⟩, xf, xu⟩ = false) := Lib.hid (by rw [hcl.out, hin]; rfl)
              have hfb : Hid (Below w2.heap.size w2 (wr.alloc (.cells #[.int .i64 x1, .int .i64 y1, .int .i64 x2, .int .i64 y2, .int .i64 xb, .int .i64 xt, .int .i64 xf, .int .i64 xu] 136))) := Lib.hid (hbq.out.alloc hzq _)
              have hown' := Lib.hid (hown.alloc (.cells #[.int .i64 x1, .int .i64 y1, .int .i64 x2, .int .i64 y2, .int .i64 xb, .int .i64 xt, .int .i64 xf, .int .i64 xu] 136))
              clear hown
              go_wp2_with (go_at_call 49; refine (HInn.out _).mono ?_; rintro e w' ⟨rfl, rfl⟩)
              go_roundw
              case rel => exact ⟨m + 1, by omega, by go_num, by simp only [clTo, HX.out, hno.out]; exact hown'.out, hfb.out⟩
              case measure => simp [intOf]; omega
            | true =>
              rw [hin] at HInn
              have hfb : Hid (Below w2.heap.size w2 (wr.alloc (.cells #[.int .i64 x1, .int .i64 y1, .int .i64 x2, .int .i64 y2, .int .i64 xb, .int .i64 xt, .int .i64 xf, .int .i64 xu] 136))) := Lib.hid (hbq.out.alloc hzq _)
              have hown' := Lib.hid (hown.alloc (.cells #[.int .i64 x1, .int .i64 y1, .int .i64 x2, .int .i64 y2, .int .i64 xb, .int .i64 xt, .int .i64 xf, .int .i64 xu] 136))
              have hlo := Lib.hid hown.lt
              clear hown
              cases hbl : blocksB ⟨x1, y1, x2, y2, xb, xt⟩ a c with
              | false =>
                simp only [show (⟨a.x, a.y, a.z, a.m⟩ : Sta) = a from rfl, show (⟨c.x, c.y, c.z, c.m⟩ : Sta) = c from rfl, hbl] at HC
                have hno : Hid (clB a c h ⟨⟨x1, y1, x2, y2, xb, xt⟩, xf, xu⟩ = false) := Lib.hid (by rw [hcl.out, hbl, Bool.and_false])
                go_wp2_with (first | (go_at_call 49; refine (HInn.out _).mono ?_; rintro e w' ⟨rfl, rfl⟩) | (go_at_call 143; refine (HC.out _).mono ?_; rintro e w' ⟨rfl, hb⟩; obtain ⟨hc, hf⟩ := bcell hb; have hz := hb.size; try simp at hz))
                go_roundw
                case rel => exact ⟨m + 1, by omega, by go_num, by simp only [clTo, HX.out, hno.out]; exact owns_below hown'.out hb, hfb.out.trans (hb.mono hfb.out.size)⟩
                case measure => simp [intOf]; omega
              | true =>
                simp only [show (⟨a.x, a.y, a.z, a.m⟩ : Sta) = a from rfl, show (⟨c.x, c.y, c.z, c.m⟩ : Sta) = c from rfl, hbl] at HC
                have hyes : Hid (clB a c h ⟨⟨x1, y1, x2, y2, xb, xt⟩, xf, xu⟩ = true) := Lib.hid (by rw [hcl.out, hbl, hin]; rfl)
                go_wp2_with (first | (go_at_call 49; refine (HInn.out _).mono ?_; rintro e w' ⟨rfl, rfl⟩) | (go_at_call 143; refine (HC.out _).mono ?_; rintro e w' ⟨rfl, hb⟩; obtain ⟨hc, hf⟩ := bcell hb; have hz := hb.size; try simp at hz) | (at_builtin; refine wpList_append_own _ rfl _ _ 40 rfl w2.heap.size 3 i0 (.int .i64 0) 1 8 Tryz.underlying40 hi0 hz0 hz1 hz2 rfl (by decide) _ _ _ rfl ((owns_below hown'.out hb).alloc _) ⟨w'.heap.size, 0, none⟩ 1 1 [.int .i64 m] rfl rfl ?c1 ?c2 ?c3 ?c4 ?c5 ?_))
                case c1 => exact cell_one_new _ _ _
                case c2 => simp [Value.oneCell']
                case c3 => have := clTo_len xs a c h m; unfold maxLen; omega
                case c4 => have := clTo_len xs a c h m; omega
                case c5 => have := hfb.out.size; simp; omega
                intro v' w1 hown1 hgrow _
                have hB2 : Below w2.heap.size w2 w' := hfb.out.trans (hb.mono hfb.out.size)
                have hB3 : Below w2.heap.size w2 w1 := Below.grown (w := w'.alloc (.cells #[.int .i64 m] 3)) (hB2.alloc hB2.size _) hgrow (by have := hB2.size; simp; omega) (fun k hk => by have := (hlo.out k hk).1; omega)
                replace hB3 := Lib.hid hB3
                replace hown1 := Lib.hid hown1
                clear hgrow hown' hlo hB2 hb hc hf
                go_wp2
                go_roundw
                case rel => exact ⟨m + 1, by omega, by go_num, by simp only [clTo, HX.out, hyes.out, if_true, List.length_append, List.length_singleton, List.map_append, List.map_cons, List.map_nil]; exact hown1.out, hB3.out⟩
                case measure => simp [intOf]; omega
          · obtain rfl : m = xs.length := by omega
            obtain ⟨B1, cB1, hv2, hrowB, hleB, _⟩ := row_of_ints hown
            subst hv2
            have hRA2 := Lib.hid (hRA.out.kept (kept_of_below hbq))
            have hfin := Lib.hid (below_tr hbel.out ((hbmH.out.trans (hbq.mono hzm))))
            have hRB := Lib.hid hrowB
            clear hown hrowB hbq
            go_wp2
            go_ret2
            exact ⟨A1, B1, cA1, cB1, rfl, hRA2.out, hRB.out, hfin.out⟩
end Go.Proofs.YtdfohielnfdmkaaGreat

/- Walks: the reference of the hill: why a station cannot flash to another one; whether it can. -/
set_option linter.unusedVariables false
set_option linter.unusedSimpArgs false
namespace Go.Proofs.YtdfohielnfdmkaaGreat
open Go.RowKit
attribute [local go_sem low] cell_alloc_ite frozen_alloc_ite ov_cell ov_frozen

/-- What 'Why' gives. -/
def RWhyMade (fr : Bool) (w : World) (e : Ending) (w' : World) : Prop := ∃ n x : Int, e = .returned (.tuple #[.int .u8 n, .int .i64 x]) ∧ (n == 0) = fr ∧ Below w.heap.size w w'

set_option maxRecDepth 100000 in
set_option maxHeartbeats 8000000 in
theorem rwhy_any (V : LV) (L : Lnd) (i j k h : Nat) (a c : Sta) (s : Sun) (xs : List Clo) (w : World) (hr : RdL w V L) (ok : Okay L) (hi : L.st[i]? = some a) (hj : L.st[j]? = some c) (hk : L.ca[k]? = some xs) (hs : L.su[h]? = some s) :
    Calls Tryz.prog 87 #[vLnd V L, .int .i64 i, .int .i64 j, .int .i64 k, .int .i64 h] w (RWhyMade (frB L i j a c s xs h) w) := by
  have HBh := Lib.hid (fun W (hW : Below w.heap.size w W) => behind_any V L i j h a c s W (hr.below hW) ok hi hj hs)
  have HWl := Lib.hid (fun W (hW : Below w.heap.size w W) => walls_any V L i j k h a c xs W (hr.below hW) ok hi hj hk)
  unfold WallsMade at HWl
  have HF : Hid (frB L i j a c s xs h = (decide (0 < s.u) && decide (mirI a c s ≤ a.m) && !ridB L i j && !xs.any (clB a c h))) := Lib.hid rfl
  have HRg := Lib.hid (rgTo_all L hi hj)
  have HCl := Lib.hid (clTo_all xs a c h)
  have HM : Hid (mirI a c s = if behB a c s then 2 else 1) := Lib.hid (by unfold mirI behB; by_cases hb : s.e * (c.x - a.x) + s.n * (c.y - a.y) < 0 <;> simp [hb])
  have ham : 1 ≤ a.m ∧ a.m ≤ 2 := by
    have := ok.st a (List.mem_of_getElem? hi)
    simp only [staOk, Bool.and_eq_true, inR_true] at this
    exact this.2
  obtain ⟨a0, c0, a1, c1, a2, c2, a3, c3⟩ := V
  obtain ⟨b, o, hA, e0, e1, e2, e3⟩ := hr.st.sta hi
  obtain ⟨b2, o2, hA2, g0, g1, g2⟩ := hr.su.sun hs
  have li := (List.getElem?_eq_some_iff.1 hi).1
  have lh := (List.getElem?_eq_some_iff.1 hs).1
  have hs1 := ok.s1
  have hu1 := ok.u1
  have hlb := cell_lt e0
  have hlb2 := cell_lt g0
  simp only at hlb hlb2 hA hA2
  subst hA
  subst hA2
  clear hr ok hi hj hk hs
  simp only [vLnd] at *
  by_cases hu : s.u ≤ 0
  · have HN : Hid (frB L i j a c s xs h = false) := Lib.hid (by rw [HF.out, show decide (0 < s.u) = false by simpa using hu]; simp)
    clear HBh HWl HF HRg HCl HM e0 e1 e2 e3
    go_enter Tryz.func87, Tryz.ntmps87
    go_wp2
    go_ret2
    exact ⟨1, 0, rfl, by rw [HN.out]; rfl, by (repeat (first | exact Below.refl _ _ | (with_reducible exact Hid.out (by assumption)) | refine below_al ?_ _ | refine below_dr ?_ | refine below_tr ?_ (by assumption) | refine below_tr ?_ (Bel.out (by assumption)) | refine below_tr ?_ (Bel.out (ov_bel _ _)) | refine below_set ?_ (by simp; try omega)))⟩
  · cases hbh : behB a c s with
    | true =>
      rw [hbh] at HBh HM
      by_cases hm : a.m = 1
      · have HN : Hid (frB L i j a c s xs h = false) := Lib.hid (by rw [HF.out, HM.out, hm]; simp)
        have hmd : (a.m == 1) = true := by simpa using hm
        rw [hm] at e3
        clear HWl HF HRg HCl HM hm hmd
        go_enter Tryz.func87, Tryz.ntmps87
        go_wp2_with (go_at_call 112; refine (HBh.out _ (by (repeat (first | exact Below.refl _ _ | (with_reducible exact Hid.out (by assumption)) | refine below_al ?_ _ | refine below_dr ?_ | refine below_tr ?_ (by assumption) | refine below_tr ?_ (Bel.out (by assumption)) | refine below_tr ?_ (Bel.out (ov_bel _ _)) | refine below_set ?_ (by simp; try omega))))).mono ?_; rintro e w' ⟨rfl, hb⟩; obtain ⟨hc, hf⟩ := bcell hb; have hz := hb.size; try simp at hz)
        go_ret2
        exact ⟨2, 0, rfl, by rw [HN.out]; rfl, by (repeat (first | exact Below.refl _ _ | (with_reducible exact Hid.out (by assumption)) | refine below_al ?_ _ | refine below_dr ?_ | refine below_tr ?_ (by assumption) | refine below_tr ?_ (Bel.out (by assumption)) | refine below_tr ?_ (Bel.out (ov_bel _ _)) | refine below_set ?_ (by simp; try omega)))⟩
      · have HF2 : Hid (frB L i j a c s xs h = (!ridB L i j && !xs.any (clB a c h))) := Lib.hid (by
          rw [HF.out, HM.out, show decide (0 < s.u) = true by simpa using hu, show decide ((if true = true then (2 : Int) else 1) ≤ a.m) = true by simp; omega]; rfl)
        have hmd : (a.m == 1) = false := by simpa using hm
        clear HF HM
        cases hrl : rgTo L a c L.ri.length with
        | cons y ys =>
          have HN : Hid (frB L i j a c s xs h = false) := Lib.hid (by rw [HF2.out, ← HRg.out, hrl]; rfl)
          simp only [hrl, List.length_cons] at HWl
          clear HF2 HRg HCl
          go_enter Tryz.func87, Tryz.ntmps87
          go_wp2_with (go_at_call 112; refine (HBh.out _ (by (repeat (first | exact Below.refl _ _ | (with_reducible exact Hid.out (by assumption)) | refine below_al ?_ _ | refine below_dr ?_ | refine below_tr ?_ (by assumption) | refine below_tr ?_ (Bel.out (by assumption)) | refine below_tr ?_ (Bel.out (ov_bel _ _)) | refine below_set ?_ (by simp; try omega))))).mono ?_; rintro e w' ⟨rfl, hb⟩; obtain ⟨hc, hf⟩ := bcell hb; have hz := hb.size; try simp at hz)
          refine (HWl.out _ (by (repeat (first | exact Below.refl _ _ | (with_reducible exact Hid.out (by assumption)) | refine below_al ?_ _ | refine below_dr ?_ | refine below_tr ?_ (by assumption) | refine below_tr ?_ (Bel.out (by assumption)) | refine below_tr ?_ (Bel.out (ov_bel _ _)) | refine below_set ?_ (by simp; try omega))))).mono ?_
          rintro e w5 ⟨A, B, cA, cB, rfl, hrA, hrB, hb5⟩
          obtain ⟨b4, o4, hA4, q0⟩ := hrA.num (i := 0) (x := y) rfl
          subst hA4
          have hb5' := Lib.hid hb5
          have hl5 := cell_lt q0
          simp only [Nat.add_zero] at q0 hl5
          clear hrA hrB hb5
          go_wp2
          (refine wp_region_ov (by kernel_rfl) (by kernel_rfl) (fun R hR => ?_); (repeat (go_big_quiet_step (fail))); refine wpQuiet_nil ?_; refine hR.out _ ?_; clear hR R; intro W hW; have hc := hW.cells; have hf := hW.frozens; have hz := hW.size; (try simp at hz))
          go_wp2
          go_ret2
          exact ⟨3, y, rfl, by rw [HN.out]; rfl, by (repeat (first | exact Below.refl _ _ | (with_reducible exact Hid.out (by assumption)) | refine below_al ?_ _ | refine below_dr ?_ | refine below_tr ?_ (by assumption) | refine below_tr ?_ (Bel.out (by assumption)) | refine below_tr ?_ (Bel.out (ov_bel _ _)) | refine below_set ?_ (by simp; try omega)))⟩
        | nil =>
          have hnr : ridB L i j = false := by rw [← HRg.out, hrl]; rfl
          rw [hrl] at HWl
          simp only [List.length_nil] at HWl
          cases hcl : clTo xs a c h xs.length with
          | cons y ys =>
            have HN : Hid (frB L i j a c s xs h = false) := Lib.hid (by rw [HF2.out, ← HCl.out, hcl]; simp)
            rw [hcl] at HWl
            simp only [List.length_cons] at HWl
            clear HF2 HRg HCl hnr
            go_enter Tryz.func87, Tryz.ntmps87
            go_wp2_with (go_at_call 112; refine (HBh.out _ (by (repeat (first | exact Below.refl _ _ | (with_reducible exact Hid.out (by assumption)) | refine below_al ?_ _ | refine below_dr ?_ | refine below_tr ?_ (by assumption) | refine below_tr ?_ (Bel.out (by assumption)) | refine below_tr ?_ (Bel.out (ov_bel _ _)) | refine below_set ?_ (by simp; try omega))))).mono ?_; rintro e w' ⟨rfl, hb⟩; obtain ⟨hc, hf⟩ := bcell hb; have hz := hb.size; try simp at hz)
            refine (HWl.out _ (by (repeat (first | exact Below.refl _ _ | (with_reducible exact Hid.out (by assumption)) | refine below_al ?_ _ | refine below_dr ?_ | refine below_tr ?_ (by assumption) | refine below_tr ?_ (Bel.out (by assumption)) | refine below_tr ?_ (Bel.out (ov_bel _ _)) | refine below_set ?_ (by simp; try omega))))).mono ?_
            rintro e w5 ⟨A, B, cA, cB, rfl, hrA, hrB, hb5⟩
            obtain ⟨b4, o4, hA4, q0⟩ := hrB.num (i := 0) (x := y) rfl
            subst hA4
            have hb5' := Lib.hid hb5
            have hl5 := cell_lt q0
            simp only [Nat.add_zero] at q0 hl5
            clear hrA hrB hb5
            go_wp2
            (refine wp_region_ov (by kernel_rfl) (by kernel_rfl) (fun R hR => ?_); (repeat (go_big_quiet_step (fail))); refine wpQuiet_nil ?_; refine hR.out _ ?_; clear hR R; intro W hW; have hc := hW.cells; have hf := hW.frozens; have hz := hW.size; (try simp at hz))
            go_wp2
            go_ret2
            exact ⟨4, y, rfl, by rw [HN.out]; rfl, by (repeat (first | exact Below.refl _ _ | (with_reducible exact Hid.out (by assumption)) | refine below_al ?_ _ | refine below_dr ?_ | refine below_tr ?_ (by assumption) | refine below_tr ?_ (Bel.out (by assumption)) | refine below_tr ?_ (Bel.out (ov_bel _ _)) | refine below_set ?_ (by simp; try omega)))⟩
          | nil =>
            have HN : Hid (frB L i j a c s xs h = true) := Lib.hid (by rw [HF2.out, ← HCl.out, hcl, hnr]; rfl)
            rw [hcl] at HWl
            simp only [List.length_nil] at HWl
            clear HF2 HRg HCl hnr
            go_enter Tryz.func87, Tryz.ntmps87
            go_wp2_with (go_at_call 112; refine (HBh.out _ (by (repeat (first | exact Below.refl _ _ | (with_reducible exact Hid.out (by assumption)) | refine below_al ?_ _ | refine below_dr ?_ | refine below_tr ?_ (by assumption) | refine below_tr ?_ (Bel.out (by assumption)) | refine below_tr ?_ (Bel.out (ov_bel _ _)) | refine below_set ?_ (by simp; try omega))))).mono ?_; rintro e w' ⟨rfl, hb⟩; obtain ⟨hc, hf⟩ := bcell hb; have hz := hb.size; try simp at hz)
            refine (HWl.out _ (by (repeat (first | exact Below.refl _ _ | (with_reducible exact Hid.out (by assumption)) | refine below_al ?_ _ | refine below_dr ?_ | refine below_tr ?_ (by assumption) | refine below_tr ?_ (Bel.out (by assumption)) | refine below_tr ?_ (Bel.out (ov_bel _ _)) | refine below_set ?_ (by simp; try omega))))).mono ?_
            rintro e w5 ⟨A, B, cA, cB, rfl, hrA, hrB, hb5⟩
            have hb5' := Lib.hid hb5
            clear hrA hrB hb5
            go_wp2
            go_ret2
            exact ⟨0, 0, rfl, by rw [HN.out]; rfl, by (repeat (first | exact Below.refl _ _ | (with_reducible exact Hid.out (by assumption)) | refine below_al ?_ _ | refine below_dr ?_ | refine below_tr ?_ (by assumption) | refine below_tr ?_ (Bel.out (by assumption)) | refine below_tr ?_ (Bel.out (ov_bel _ _)) | refine below_set ?_ (by simp; try omega)))⟩
    | false =>
      rw [hbh] at HBh HM
      have HF2 : Hid (frB L i j a c s xs h = (!ridB L i j && !xs.any (clB a c h))) := Lib.hid (by
        rw [HF.out, HM.out, show decide (0 < s.u) = true by simpa using hu, show decide ((if false = true then (2 : Int) else 1) ≤ a.m) = true by simp; omega]; rfl)
      clear HF HM
      cases hrl : rgTo L a c L.ri.length with
      | cons y ys =>
        have HN : Hid (frB L i j a c s xs h = false) := Lib.hid (by rw [HF2.out, ← HRg.out, hrl]; rfl)
        simp only [hrl, List.length_cons] at HWl
        clear HF2 HRg HCl
        go_enter Tryz.func87, Tryz.ntmps87
        go_wp2_with (go_at_call 112; refine (HBh.out _ (by (repeat (first | exact Below.refl _ _ | (with_reducible exact Hid.out (by assumption)) | refine below_al ?_ _ | refine below_dr ?_ | refine below_tr ?_ (by assumption) | refine below_tr ?_ (Bel.out (by assumption)) | refine below_tr ?_ (Bel.out (ov_bel _ _)) | refine below_set ?_ (by simp; try omega))))).mono ?_; rintro e w' ⟨rfl, hb⟩; obtain ⟨hc, hf⟩ := bcell hb; have hz := hb.size; try simp at hz)
        refine (HWl.out _ (by (repeat (first | exact Below.refl _ _ | (with_reducible exact Hid.out (by assumption)) | refine below_al ?_ _ | refine below_dr ?_ | refine below_tr ?_ (by assumption) | refine below_tr ?_ (Bel.out (by assumption)) | refine below_tr ?_ (Bel.out (ov_bel _ _)) | refine below_set ?_ (by simp; try omega))))).mono ?_
        rintro e w5 ⟨A, B, cA, cB, rfl, hrA, hrB, hb5⟩
        obtain ⟨b4, o4, hA4, q0⟩ := hrA.num (i := 0) (x := y) rfl
        subst hA4
        have hb5' := Lib.hid hb5
        have hl5 := cell_lt q0
        simp only [Nat.add_zero] at q0 hl5
        clear hrA hrB hb5
        go_wp2
        (refine wp_region_ov (by kernel_rfl) (by kernel_rfl) (fun R hR => ?_); (repeat (go_big_quiet_step (fail))); refine wpQuiet_nil ?_; refine hR.out _ ?_; clear hR R; intro W hW; have hc := hW.cells; have hf := hW.frozens; have hz := hW.size; (try simp at hz))
        go_wp2
        go_ret2
        exact ⟨3, y, rfl, by rw [HN.out]; rfl, by (repeat (first | exact Below.refl _ _ | (with_reducible exact Hid.out (by assumption)) | refine below_al ?_ _ | refine below_dr ?_ | refine below_tr ?_ (by assumption) | refine below_tr ?_ (Bel.out (by assumption)) | refine below_tr ?_ (Bel.out (ov_bel _ _)) | refine below_set ?_ (by simp; try omega)))⟩
      | nil =>
        have hnr : ridB L i j = false := by rw [← HRg.out, hrl]; rfl
        rw [hrl] at HWl
        simp only [List.length_nil] at HWl
        cases hcl : clTo xs a c h xs.length with
        | cons y ys =>
          have HN : Hid (frB L i j a c s xs h = false) := Lib.hid (by rw [HF2.out, ← HCl.out, hcl]; simp)
          rw [hcl] at HWl
          simp only [List.length_cons] at HWl
          clear HF2 HRg HCl hnr
          go_enter Tryz.func87, Tryz.ntmps87
          go_wp2_with (go_at_call 112; refine (HBh.out _ (by (repeat (first | exact Below.refl _ _ | (with_reducible exact Hid.out (by assumption)) | refine below_al ?_ _ | refine below_dr ?_ | refine below_tr ?_ (by assumption) | refine below_tr ?_ (Bel.out (by assumption)) | refine below_tr ?_ (Bel.out (ov_bel _ _)) | refine below_set ?_ (by simp; try omega))))).mono ?_; rintro e w' ⟨rfl, hb⟩; obtain ⟨hc, hf⟩ := bcell hb; have hz := hb.size; try simp at hz)
          refine (HWl.out _ (by (repeat (first | exact Below.refl _ _ | (with_reducible exact Hid.out (by assumption)) | refine below_al ?_ _ | refine below_dr ?_ | refine below_tr ?_ (by assumption) | refine below_tr ?_ (Bel.out (by assumption)) | refine below_tr ?_ (Bel.out (ov_bel _ _)) | refine below_set ?_ (by simp; try omega))))).mono ?_
          rintro e w5 ⟨A, B, cA, cB, rfl, hrA, hrB, hb5⟩
          obtain ⟨b4, o4, hA4, q0⟩ := hrB.num (i := 0) (x := y) rfl
          subst hA4
          have hb5' := Lib.hid hb5
          have hl5 := cell_lt q0
          simp only [Nat.add_zero] at q0 hl5
          clear hrA hrB hb5
          go_wp2
          (refine wp_region_ov (by kernel_rfl) (by kernel_rfl) (fun R hR => ?_); (repeat (go_big_quiet_step (fail))); refine wpQuiet_nil ?_; refine hR.out _ ?_; clear hR R; intro W hW; have hc := hW.cells; have hf := hW.frozens; have hz := hW.size; (try simp at hz))
          go_wp2
          go_ret2
          exact ⟨4, y, rfl, by rw [HN.out]; rfl, by (repeat (first | exact Below.refl _ _ | (with_reducible exact Hid.out (by assumption)) | refine below_al ?_ _ | refine below_dr ?_ | refine below_tr ?_ (by assumption) | refine below_tr ?_ (Bel.out (by assumption)) | refine below_tr ?_ (Bel.out (ov_bel _ _)) | refine below_set ?_ (by simp; try omega)))⟩
        | nil =>
          have HN : Hid (frB L i j a c s xs h = true) := Lib.hid (by rw [HF2.out, ← HCl.out, hcl, hnr]; rfl)
          rw [hcl] at HWl
          simp only [List.length_nil] at HWl
          clear HF2 HRg HCl hnr
          go_enter Tryz.func87, Tryz.ntmps87
          go_wp2_with (go_at_call 112; refine (HBh.out _ (by (repeat (first | exact Below.refl _ _ | (with_reducible exact Hid.out (by assumption)) | refine below_al ?_ _ | refine below_dr ?_ | refine below_tr ?_ (by assumption) | refine below_tr ?_ (Bel.out (by assumption)) | refine below_tr ?_ (Bel.out (ov_bel _ _)) | refine below_set ?_ (by simp; try omega))))).mono ?_; rintro e w' ⟨rfl, hb⟩; obtain ⟨hc, hf⟩ := bcell hb; have hz := hb.size; try simp at hz)
          refine (HWl.out _ (by (repeat (first | exact Below.refl _ _ | (with_reducible exact Hid.out (by assumption)) | refine below_al ?_ _ | refine below_dr ?_ | refine below_tr ?_ (by assumption) | refine below_tr ?_ (Bel.out (by assumption)) | refine below_tr ?_ (Bel.out (ov_bel _ _)) | refine below_set ?_ (by simp; try omega))))).mono ?_
          rintro e w5 ⟨A, B, cA, cB, rfl, hrA, hrB, hb5⟩
          have hb5' := Lib.hid hb5
          clear hrA hrB hb5
          go_wp2
          go_ret2
          exact ⟨0, 0, rfl, by rw [HN.out]; rfl, by (repeat (first | exact Below.refl _ _ | (with_reducible exact Hid.out (by assumption)) | refine below_al ?_ _ | refine below_dr ?_ | refine below_tr ?_ (by assumption) | refine below_tr ?_ (Bel.out (by assumption)) | refine below_tr ?_ (Bel.out (ov_bel _ _)) | refine below_set ?_ (by simp; try omega)))⟩
theorem rcan_any (V : LV) (L : Lnd) (i j k h : Nat) (w : World) (hr : RdL w V L) (ok : Okay L) (li : i < L.st.length) (lj : j < L.st.length) (lk : k < L.ca.length) (lh : h < L.su.length) :
    Calls Tryz.prog 55 #[vLnd V L, .int .i64 i, .int .i64 j, .int .i64 k, .int .i64 h] w fun e w' => e = .returned (.bool (canN L i j k h)) ∧ Below w.heap.size w w' := by
  have hi := List.getElem?_eq_getElem li
  have hj := List.getElem?_eq_getElem lj
  have hk := List.getElem?_eq_getElem lk
  have hs := List.getElem?_eq_getElem lh
  have HC := Lib.hid (canN_eq hi hj hk hs)
  have HW := Lib.hid (fun W (hW : Below w.heap.size w W) => rwhy_any V L i j k h _ _ _ _ W (hr.below hW) ok hi hj hk hs)
  have hs1 := ok.s1
  generalize frB L i j L.st[i] L.st[j] L.su[h] L.ca[k] h = fr at *
  rw [HC.out]
  clear hr ok hi hj hk hs HC
  simp only [vLnd] at *
  by_cases hij : i = j
  · subst hij
    go_enter Tryz.func55, Tryz.ntmps55
    go_wp2
    go_ret
    exact ⟨by simp, by (repeat (first | exact Below.refl _ _ | (with_reducible exact Hid.out (by assumption)) | refine below_al ?_ _ | refine below_dr ?_ | refine below_tr ?_ (by assumption) | refine below_tr ?_ (Bel.out (by assumption)) | refine below_tr ?_ (Bel.out (ov_bel _ _)) | refine below_set ?_ (by simp; try omega)))⟩
  · have hne : ((i : Int) == j) = false := by simpa using (by omega : ¬ (i : Int) = j)
    have hnb : Hid (((i : Int) != j) = true) := Lib.hid (by simpa using (by omega : ¬ (i : Int) = j))
    go_enter Tryz.func55, Tryz.ntmps55
    go_wp2_with fail
    refine (HW.out _ (by (repeat (first | exact Below.refl _ _ | (with_reducible exact Hid.out (by assumption)) | refine below_al ?_ _ | refine below_dr ?_ | refine below_tr ?_ (by assumption) | refine below_tr ?_ (Bel.out (by assumption)) | refine below_tr ?_ (Bel.out (ov_bel _ _)) | refine below_set ?_ (by simp; try omega))))).mono ?_
    rintro e w5 ⟨n, x, rfl, hn, hb5⟩
    have hb5' := Lib.hid hb5
    clear hb5
    go_wp2
    go_ret
    exact ⟨by rw [hnb.out, ← hn]; rfl, by (repeat (first | exact Below.refl _ _ | (with_reducible exact Hid.out (by assumption)) | refine below_al ?_ _ | refine below_dr ?_ | refine below_tr ?_ (by assumption) | refine below_tr ?_ (Bel.out (by assumption)) | refine below_tr ?_ (Bel.out (ov_bel _ _)) | refine below_set ?_ (by simp; try omega)))⟩
end Go.Proofs.YtdfohielnfdmkaaGreat

