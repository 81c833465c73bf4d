/- Part KH of the proof: S1 · S2 · S3 · S4 · S5. -/
import Derived.Test.YtdfohielnfdmkaaKG
set_option linter.unusedVariables false
set_option linter.unusedSimpArgs false
/- Walks: the reference of the hill: whether a wall blocks. -/
set_option linter.unusedVariables false
set_option linter.unusedSimpArgs false
namespace Go.Proofs.Ytdfohielnfdmkaa
open Go.RowKit
attribute [local go_sem low] cell_alloc_ite frozen_alloc_ite ov_cell ov_frozen

abbrev vSta (s : Sta) : Value := .agg #[.int .i64 s.x, .int .i64 s.y, .int .i64 s.z, .int .i64 s.m]
abbrev vWal (s : Wal) : Value := .agg #[.int .i64 s.x1, .int .i64 s.y1, .int .i64 s.x2, .int .i64 s.y2, .int .i64 s.b, .int .i64 s.t]
theorem in_any (n lo hi : Int) (w : World) : Calls Try.prog 35 #[.int .i64 n, .int .i64 lo, .int .i64 hi] w fun e w' => e = .returned (.bool (inR n lo hi)) ∧ w = w' := by
  by_cases h1 : lo ≤ n
  · have hr : inR n lo hi = decide (n ≤ hi) := by unfold inR; rw [show decide (lo ≤ n) = true by simpa using h1]; rfl
    go_enter Try.func35, Try.ntmps35
    go_wp2
    go_ret
    exact ⟨by first | rfl | (rw [hr]; rfl), rfl⟩
  · have hr : inR n lo hi = false := by unfold inR; rw [show decide (lo ≤ n) = false by simpa using h1]; rfl
    go_enter Try.func35, Try.ntmps35
    go_wp2
    go_ret
    exact ⟨by first | rfl | (rw [hr]; rfl), rfl⟩
def signI (n : Int) : Int := if 0 < n then 1 else if n < 0 then -1 else 0
set_option maxHeartbeats 2000000 in
theorem isWall_any (x1 y1 x2 y2 b t : Int) (w : World) : Calls Try.prog 36 #[vWal ⟨x1, y1, x2, y2, b, t⟩] w fun e w' => e = .returned (.bool (walOk ⟨x1, y1, x2, y2, b, t⟩)) ∧ Below w.heap.size w w' := by
  have HI := Lib.hid (fun n lo hi W => in_any n lo hi W)
  have HD : Hid (walOk ⟨x1, y1, x2, y2, b, t⟩ = (inR x1 0 100 && inR y1 0 100 && inR x2 0 100 && inR y2 0 100 && ((x1 != x2) || (y1 != y2)) && inR b 0 t && decide (t ≤ 1000))) := Lib.hid (by
    simp only [walOk, onMap, bne, Bool.and_assoc, Bool.not_and]
    congr 1)
  rcases Bool.eq_false_or_eq_true (inR x1 0 100) with hb0 | hb0
  · rcases Bool.eq_false_or_eq_true (inR y1 0 100) with hb1 | hb1
    · rcases Bool.eq_false_or_eq_true (inR x2 0 100) with hb2 | hb2
      · rcases Bool.eq_false_or_eq_true (inR y2 0 100) with hb3 | hb3
        · rcases Bool.eq_false_or_eq_true (x1 != x2) with hc1 | hc1 <;> rcases Bool.eq_false_or_eq_true (y1 != y2) with hc2 | hc2 <;> rcases Bool.eq_false_or_eq_true (inR b 0 t) with hc3 | hc3
          all_goals
            have hv := HD.out
            simp only [*, Bool.true_and, Bool.false_and, Bool.and_false, Bool.and_true, Bool.not_true, Bool.not_false, Bool.or_true, Bool.true_or, Bool.false_or, Bool.or_false] at hv
            go_enter Try.func36, Try.ntmps36
            go_wp2_with (go_at_call 35; refine (HI.out _ _ _ _).mono ?_; rintro e w' ⟨rfl, rfl⟩)
            go_ret
            exact ⟨by first | rfl | exact congrArg (fun b => Ending.returned (.bool b)) hv.symm, by (repeat (first | exact Below.refl _ _ | (with_reducible exact Hid.out (by assumption)) | refine below_al ?_ _ | refine below_dr ?_ | refine below_tr ?_ (by assumption) | refine below_tr ?_ (Bel.out (by assumption)) | refine below_tr ?_ (Bel.out (ov_bel _ _)) | refine below_set ?_ (by simp; try omega)))⟩
        · rcases Bool.eq_false_or_eq_true (x1 != x2) with hc1 | hc1 <;> rcases Bool.eq_false_or_eq_true (y1 != y2) with hc2 | hc2 <;> rcases Bool.eq_false_or_eq_true (inR b 0 t) with hc3 | hc3
          all_goals
            have hv := HD.out
            simp only [*, Bool.true_and, Bool.false_and, Bool.and_false, Bool.and_true, Bool.not_true, Bool.not_false, Bool.or_true, Bool.true_or, Bool.false_or, Bool.or_false] at hv
            go_enter Try.func36, Try.ntmps36
            go_wp2_with (go_at_call 35; refine (HI.out _ _ _ _).mono ?_; rintro e w' ⟨rfl, rfl⟩)
            go_ret
            exact ⟨by first | rfl | exact congrArg (fun b => Ending.returned (.bool b)) hv.symm, by (repeat (first | exact Below.refl _ _ | (with_reducible exact Hid.out (by assumption)) | refine below_al ?_ _ | refine below_dr ?_ | refine below_tr ?_ (by assumption) | refine below_tr ?_ (Bel.out (by assumption)) | refine below_tr ?_ (Bel.out (ov_bel _ _)) | refine below_set ?_ (by simp; try omega)))⟩
      · rcases Bool.eq_false_or_eq_true (x1 != x2) with hc1 | hc1 <;> rcases Bool.eq_false_or_eq_true (y1 != y2) with hc2 | hc2 <;> rcases Bool.eq_false_or_eq_true (inR b 0 t) with hc3 | hc3
        all_goals
          have hv := HD.out
          simp only [*, Bool.true_and, Bool.false_and, Bool.and_false, Bool.and_true, Bool.not_true, Bool.not_false, Bool.or_true, Bool.true_or, Bool.false_or, Bool.or_false] at hv
          go_enter Try.func36, Try.ntmps36
          go_wp2_with (go_at_call 35; refine (HI.out _ _ _ _).mono ?_; rintro e w' ⟨rfl, rfl⟩)
          go_ret
          exact ⟨by first | rfl | exact congrArg (fun b => Ending.returned (.bool b)) hv.symm, by (repeat (first | exact Below.refl _ _ | (with_reducible exact Hid.out (by assumption)) | refine below_al ?_ _ | refine below_dr ?_ | refine below_tr ?_ (by assumption) | refine below_tr ?_ (Bel.out (by assumption)) | refine below_tr ?_ (Bel.out (ov_bel _ _)) | refine below_set ?_ (by simp; try omega)))⟩
    · rcases Bool.eq_false_or_eq_true (x1 != x2) with hc1 | hc1 <;> rcases Bool.eq_false_or_eq_true (y1 != y2) with hc2 | hc2 <;> rcases Bool.eq_false_or_eq_true (inR b 0 t) with hc3 | hc3
      all_goals
        have hv := HD.out
        simp only [*, Bool.true_and, Bool.false_and, Bool.and_false, Bool.and_true, Bool.not_true, Bool.not_false, Bool.or_true, Bool.true_or, Bool.false_or, Bool.or_false] at hv
        go_enter Try.func36, Try.ntmps36
        go_wp2_with (go_at_call 35; refine (HI.out _ _ _ _).mono ?_; rintro e w' ⟨rfl, rfl⟩)
        go_ret
        exact ⟨by first | rfl | exact congrArg (fun b => Ending.returned (.bool b)) hv.symm, by (repeat (first | exact Below.refl _ _ | (with_reducible exact Hid.out (by assumption)) | refine below_al ?_ _ | refine below_dr ?_ | refine below_tr ?_ (by assumption) | refine below_tr ?_ (Bel.out (by assumption)) | refine below_tr ?_ (Bel.out (ov_bel _ _)) | refine below_set ?_ (by simp; try omega)))⟩
  · rcases Bool.eq_false_or_eq_true (x1 != x2) with hc1 | hc1 <;> rcases Bool.eq_false_or_eq_true (y1 != y2) with hc2 | hc2 <;> rcases Bool.eq_false_or_eq_true (inR b 0 t) with hc3 | hc3
    all_goals
      have hv := HD.out
      simp only [*, Bool.true_and, Bool.false_and, Bool.and_false, Bool.and_true, Bool.not_true, Bool.not_false, Bool.or_true, Bool.true_or, Bool.false_or, Bool.or_false] at hv
      go_enter Try.func36, Try.ntmps36
      go_wp2_with (go_at_call 35; refine (HI.out _ _ _ _).mono ?_; rintro e w' ⟨rfl, rfl⟩)
      go_ret
      exact ⟨by first | rfl | exact congrArg (fun b => Ending.returned (.bool b)) hv.symm, by (repeat (first | exact Below.refl _ _ | (with_reducible exact Hid.out (by assumption)) | refine below_al ?_ _ | refine below_dr ?_ | refine below_tr ?_ (by assumption) | refine below_tr ?_ (Bel.out (by assumption)) | refine below_tr ?_ (Bel.out (ov_bel _ _)) | refine below_set ?_ (by simp; try omega)))⟩
end Go.Proofs.Ytdfohielnfdmkaa

/- Walks: the reference of the hill: whether a wall crosses, blocks. -/
set_option linter.unusedVariables false
set_option linter.unusedSimpArgs false
namespace Go.Proofs.Ytdfohielnfdmkaa
open Go.RowKit
attribute [local go_sem low] cell_alloc_ite frozen_alloc_ite ov_cell ov_frozen

theorem sign_bd (n : Int) : -1 ≤ signI n ∧ signI n ≤ 1 := by unfold signI; split; omega; split <;> omega
theorem sign_mul (a b : Int) : wrap64 (signI a * signI b) = signI a * signI b := by
  have h := mul_bd (a := signI a) (b := signI b) 1 1 (sign_bd a) (sign_bd b)
  simp only [Nat.reduceMul] at h
  exact IntWalk.wrap64_in _ (by omega)
def crossB (x : Wal) (a c : Sta) : Bool :=
  (signI (sideI x.x1 x.y1 x.x2 x.y2 a.x a.y) * signI (sideI x.x1 x.y1 x.x2 x.y2 c.x c.y) == -1) && (signI (sideI a.x a.y c.x c.y x.x1 x.y1) * signI (sideI a.x a.y c.x c.y x.x2 x.y2) != 1)

/-- Whether a wall blocks, as the reference has it. -/
def rblkB (x : Wal) (a c : Sta) : Bool :=
  if crossB x a c then
    if sideI x.x1 x.y1 x.x2 x.y2 a.x a.y < 0 then inR (a.z * (sideI x.x1 x.y1 x.x2 x.y2 c.x c.y) + c.z * (-(sideI x.x1 x.y1 x.x2 x.y2 a.x a.y))) (x.b * (-(sideI x.x1 x.y1 x.x2 x.y2 a.x a.y) + sideI x.x1 x.y1 x.x2 x.y2 c.x c.y)) (x.t * (-(sideI x.x1 x.y1 x.x2 x.y2 a.x a.y) + sideI x.x1 x.y1 x.x2 x.y2 c.x c.y))
    else inR (a.z * (-(sideI x.x1 x.y1 x.x2 x.y2 c.x c.y)) + c.z * (sideI x.x1 x.y1 x.x2 x.y2 a.x a.y)) (x.b * (sideI x.x1 x.y1 x.x2 x.y2 a.x a.y - sideI x.x1 x.y1 x.x2 x.y2 c.x c.y)) (x.t * (sideI x.x1 x.y1 x.x2 x.y2 a.x a.y - sideI x.x1 x.y1 x.x2 x.y2 c.x c.y))
  else false
theorem signI_cases (n : Int) : (0 < n ∧ signI n = 1) ∨ (n < 0 ∧ signI n = -1) ∨ (n = 0 ∧ signI n = 0) := by unfold signI; split; left; omega; split; right; left; omega; right; right; omega
theorem rblk_eq (x : Wal) (a c : Sta) : rblkB x a c = blocksB x a c := by
  unfold rblkB blocksB crossB
  generalize sideI x.x1 x.y1 x.x2 x.y2 a.x a.y = s
  generalize sideI x.x1 x.y1 x.x2 x.y2 c.x c.y = t
  generalize sideI a.x a.y c.x c.y x.x1 x.y1 = u
  generalize sideI a.x a.y c.x c.y x.x2 x.y2 = v
  have huv : (signI u * signI v != 1) = !decide ((0 < u ∧ 0 < v) ∨ (u < 0 ∧ v < 0)) := by
    rcases signI_cases u with ⟨h1, h2⟩ | ⟨h1, h2⟩ | ⟨h1, h2⟩ <;> rcases signI_cases v with ⟨h3, h4⟩ | ⟨h3, h4⟩ | ⟨h3, h4⟩ <;> rw [h2, h4] <;> simp <;> omega
  rw [huv]
  unfold blkC
  rcases signI_cases s with ⟨h1, h2⟩ | ⟨h1, h2⟩ | ⟨h1, h2⟩
  · rcases signI_cases t with ⟨h3, h4⟩ | ⟨h3, h4⟩ | ⟨h3, h4⟩
    · rw [h2, h4, if_neg (by simp), if_pos (by right; right; simp [h1, h3])]
    · rw [h2, h4, if_neg (show ¬ (s = 0 ∨ t = 0 ∨ decide (0 < s) = decide (0 < t)) by simp [h1, show ¬ 0 < t by omega]; omega)]
      by_cases hp : (0 < u ∧ 0 < v) ∨ (u < 0 ∧ v < 0)
      · rw [if_neg (by simp [hp]), if_pos hp]
      · rw [if_pos (by simp [hp]), if_neg hp, if_neg (by omega)]
        have e1 : absI s = s := by unfold absI; rw [if_neg (by omega)]
        have e2 : absI t = -t := by unfold absI; rw [if_pos (by omega)]
        rw [e1, e2]
        unfold aboveI inR
        rw [Int.sub_eq_add_neg (a := s)]
        congr 1
        · congr 1; apply propext; constructor <;> intro h <;> omega
        · congr 1; apply propext; constructor <;> intro h <;> omega
    · rw [h2, h4, if_neg (by simp), if_pos (by right; left; exact h3)]
  · rcases signI_cases t with ⟨h3, h4⟩ | ⟨h3, h4⟩ | ⟨h3, h4⟩
    · rw [h2, h4, if_neg (show ¬ (s = 0 ∨ t = 0 ∨ decide (0 < s) = decide (0 < t)) by simp [h3, show ¬ 0 < s by omega]; omega)]
      by_cases hp : (0 < u ∧ 0 < v) ∨ (u < 0 ∧ v < 0)
      · rw [if_neg (by simp [hp]), if_pos hp]
      · rw [if_pos (by simp [hp]), if_neg hp, if_pos h1]
        have e1 : absI s = -s := by unfold absI; rw [if_pos (by omega)]
        have e2 : absI t = t := by unfold absI; rw [if_neg (by omega)]
        rw [e1, e2]
        unfold aboveI inR
        congr 1
        · congr 1; apply propext; constructor <;> intro h <;> omega
        · congr 1; apply propext; constructor <;> intro h <;> omega
    · rw [h2, h4, if_neg (by simp), if_pos (by right; right; simp [show ¬ 0 < s by omega, show ¬ 0 < t by omega])]
    · rw [h2, h4, if_neg (by simp), if_pos (by right; left; exact h3)]
  · rw [h2, if_neg (by simp), if_pos (by left; exact h1)]

theorem blk_bds {x1 y1 x2 y2 b t ax ay az am cx cy cz cm : Int} (hw : walOk ⟨x1, y1, x2, y2, b, t⟩ = true) (ha : staOk ⟨ax, ay, az, am⟩ = true) (hc2 : staOk ⟨cx, cy, cz, cm⟩ = true) :
    (On x1 y1 ∧ On x2 y2 ∧ On ax ay ∧ On cx cy) ∧ (0 ≤ az ∧ az ≤ 1000) ∧ (0 ≤ cz ∧ cz ≤ 1000) ∧ (0 ≤ b ∧ b ≤ 1000) ∧ 0 ≤ t ∧ t ≤ 1000 := by
  simp only [walOk, staOk, Bool.and_eq_true, inR_true, decide_eq_true_eq] at hw ha hc2
  obtain ⟨⟨⟨⟨w1, w2⟩, w3⟩, w4⟩, w5⟩ := hw
  obtain ⟨⟨⟨a1, a2⟩, a3⟩, a4⟩ := ha
  obtain ⟨⟨⟨c1, c2⟩, c3⟩, c4⟩ := hc2
  exact ⟨⟨on_of w1, on_of w2, ⟨a1.1, a1.2, a2.1, a2.2⟩, ⟨c1.1, c1.2, c2.1, c2.2⟩⟩, a3, c3, ⟨w4.1, by omega⟩, by omega, w5⟩

end Go.Proofs.Ytdfohielnfdmkaa

/- Walks: the reference of the hill: whether the sun is behind. -/
set_option linter.unusedVariables false
set_option linter.unusedSimpArgs false
namespace Go.Proofs.Ytdfohielnfdmkaa
open Go.RowKit
attribute [local go_sem low] cell_alloc_ite frozen_alloc_ite ov_cell ov_frozen

def behB (a c : Sta) (s : Sun) : Bool := decide (s.e * (c.x - a.x) + s.n * (c.y - a.y) < 0)
end Go.Proofs.Ytdfohielnfdmkaa

/- Walks: the reference of the hill: the walls that block. -/
set_option linter.unusedVariables false
set_option linter.unusedSimpArgs false
namespace Go.Proofs.Ytdfohielnfdmkaa
open Go.RowKit
attribute [local go_sem low] cell_alloc_ite frozen_alloc_ite ov_cell ov_frozen

/-- The clouds before m that block. -/
def clTo (xs : List Clo) (a c : Sta) (h : Int) : Nat → List Int
  | 0 => []
  | m + 1 => match xs[m]? with
    | some r => if clB a c h r then clTo xs a c h m ++ [(m : Int)] else clTo xs a c h m
    | none => clTo xs a c h m
theorem clTo_len (xs : List Clo) (a c : Sta) (h : Int) : ∀ m, (clTo xs a c h m).length ≤ m
  | 0 => Nat.le_refl _
  | m + 1 => by
    have := clTo_len xs a c h m
    simp only [clTo]
    split
    · split
      · simp; omega
      · omega
    · omega
theorem clTo_some (xs : List Clo) (a c : Sta) (h : Int) : ∀ m, m ≤ xs.length → (!(clTo xs a c h m).isEmpty) = (xs.take m).any (clB a c h)
  | 0, _ => by simp [clTo]
  | m + 1, hl => by
    have ih := clTo_some xs a c h m (by omega)
    have hm : xs[m]? = some xs[m] := List.getElem?_eq_getElem (by omega)
    rw [List.take_succ_eq_append_getElem (by omega), List.any_append]
    simp only [clTo, hm]
    by_cases hb : clB a c h xs[m] = true
    · simp [hb]
    · have hb' : clB a c h xs[m] = false := by simpa using hb
      simp [hb', ← ih]
theorem clTo_all (xs : List Clo) (a c : Sta) (h : Int) : (!(clTo xs a c h xs.length).isEmpty) = xs.any (clB a c h) := by
  rw [clTo_some xs a c h _ (Nat.le_refl _), List.take_length]
/-- What 'Walls' gives. -/
def WallsMade (L : Lnd) (i j : Nat) (a c : Sta) (xs : List Clo) (h : Int) (w : World) (e : Ending) (w' : World) : Prop :=
  ∃ A B cA cB, e = .returned (.tuple #[.slice A (rgTo L a c L.ri.length).length cA, .slice B (clTo xs a c h xs.length).length cB]) ∧ RowAt w' A 1 encInt (rgTo L a c L.ri.length) ∧ RowAt w' B 1 encInt (clTo xs a c h xs.length) ∧ Below w.heap.size w w'

/-- The boxes of 'Walls'. -/
def WalBox (w : World) (V : LV) (L : Lnd) (a c : Sta) (v12 v13 : Value) (wc : World) : Prop :=
  ∃ b12 b13 : Nat, v12 = .pointer (some ⟨b12, 0, none⟩) ∧ v13 = .pointer (some ⟨b13, 0, none⟩) ∧ Below w.heap.size w wc ∧ CellsAt wc b12 (encSta a) ∧ CellsAt wc b13 (encSta c) ∧
    CellsAt wc w.heap.size [.slice V.a0 L.st.length V.c0, .slice V.a1 L.ri.length V.c1, .slice V.a2 L.ca.length V.c2, .slice V.a3 L.su.length V.c3]

end Go.Proofs.Ytdfohielnfdmkaa

/- Walks: the reference of the hill: why a station cannot flash to another one; whether it can. -/
set_option linter.unusedVariables false
set_option linter.unusedSimpArgs false
namespace Go.Proofs.Ytdfohielnfdmkaa
open Go.RowKit
attribute [local go_sem low] cell_alloc_ite frozen_alloc_ite ov_cell ov_frozen

/-- What 'Why' gives. -/
def RWhyMade (fr : Bool) (w : World) (e : Ending) (w' : World) : Prop := ∃ n x : Int, e = .returned (.tuple #[.int .u8 n, .int .i64 x]) ∧ (n == 0) = fr ∧ Below w.heap.size w w'

end Go.Proofs.Ytdfohielnfdmkaa

