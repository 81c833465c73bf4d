/- Part KM of the proof: S7 · S8 · S9 · S10 · S11 · S12. -/
import Derived.Deep.OwnRows
import Derived.Test.YtdfohielnfdmkaaGreatKI
import Derived.Test.YtdfohielnfdmkaaGreatKK
import Derived.Test.YtdfohielnfdmkaaGreatKL
set_option linter.unusedVariables false
set_option linter.unusedSimpArgs false
/- Walks: the reference of the relay: End, Asked. -/
set_option linter.unusedVariables false
set_option linter.unusedSimpArgs false
namespace Go.Proofs.YtdfohielnfdmkaaGreat
open Go.RowKit
attribute [local go_sem low] cell_alloc_ite frozen_alloc_ite ov_cell ov_frozen

theorem rend_any (V : LV) (L : Lnd) (w : World) (hr : L.su.length ≤ 15) : Calls Tryz.prog 44 #[vLnd V L] w fun e w' => e = .returned (.int .i64 L.su.length) ∧ Below w.heap.size w w' := by
  obtain ⟨a0, c0, a1, c1, a2, c2, a3, c3⟩ := V
  simp only [vLnd]
  go_enter Tryz.func44, Tryz.ntmps44
  go_wp2
  go_ret
  exact ⟨rfl, by (repeat (first | exact Below.refl _ _ | (with_reducible exact Hid.out (by assumption)) | refine below_al ?_ _ | refine below_dr ?_ | refine below_tr ?_ (by assumption) | refine below_tr ?_ (Bel.out (by assumption)) | refine below_tr ?_ (Bel.out (ov_bel _ _)) | refine below_set ?_ (by simp; try omega)))⟩

set_option maxHeartbeats 4000000 in
theorem rasked_any (V : LV) (L : Lnd) (f t s k : Int) (w : World) (hr : RdL w V L) :
    Calls Tryz.prog 63 #[vLnd V L, .int .i64 f, .int .i64 t, .int .i64 s, .int .i64 k] w fun e w' => e = .returned (.int .i64 (openE L [f, t] [s] k)) ∧ Below w.heap.size w w' := by
  have HF := Lib.hid (fun W (hW : Below w.heap.size w W) => rfault_any V L W (hr.below hW))
  have HE := Lib.hid (fun W => rend_any V L W hr.l3)
  have HI := Lib.hid (fun n lo hi W => in_any n lo hi W)
  have l0 := hr.l0
  have l2 := hr.l2
  have l3 := hr.l3
  obtain ⟨a0, c0, a1, c1, a2, c2, a3, c3⟩ := V
  simp only [vLnd] at *
  clear hr
  by_cases hf : faultL L = 0
  · have hD : Hid (openE L [f, t] [s] k = if (inR f 0 ((L.st.length : Int) - 1) && inR t 0 ((L.st.length : Int) - 1) && inR s 0 L.su.length && inR k 0 ((L.ca.length : Int) - 1)) then 0 else 2) := Lib.hid (by
      unfold openE; rw [if_neg (by simpa using hf)]
      simp only [List.all_cons, List.all_nil, Bool.and_true]
      generalize inR f 0 ((L.st.length : Int) - 1) = b1
      generalize inR t 0 ((L.st.length : Int) - 1) = b2
      generalize inR s 0 L.su.length = b3
      generalize inR k 0 ((L.ca.length : Int) - 1) = b4
      cases b1 <;> cases b2 <;> cases b3 <;> cases b4 <;> rfl)
    rw [hf] at HF
    clear hf
    rcases Bool.eq_false_or_eq_true (inR f 0 ((L.st.length : Int) - 1)) with hb0 | hb0
    · rcases Bool.eq_false_or_eq_true (inR t 0 ((L.st.length : Int) - 1)) with hb1 | hb1
      · rcases Bool.eq_false_or_eq_true (inR s 0 L.su.length) with hb2 | hb2
        · rcases Bool.eq_false_or_eq_true (inR k 0 ((L.ca.length : Int) - 1)) with hb3 | hb3
          · have hv := hD.out
            simp only [*, Bool.true_and, Bool.false_and, Bool.and_false, Bool.and_true, if_true, if_false, Bool.false_eq_true] at hv
            rw [hv]
            clear hv
            go_enter Tryz.func63, Tryz.ntmps63
            go_wp2_with (first | (go_at_call 23; refine (HF.out _ (by (repeat (first | exact Below.refl _ _ | (with_reducible exact Hid.out (by assumption)) | refine below_al ?_ _ | refine below_dr ?_ | refine below_tr ?_ (by assumption) | refine below_tr ?_ (Bel.out (by assumption)) | refine below_tr ?_ (Bel.out (ov_bel _ _)) | refine below_set ?_ (by simp; try omega))))).mono ?_; rintro e w' ⟨rfl, hb⟩; obtain ⟨hc, hf⟩ := bcell hb; have hz := hb.size; try simp at hz) | (go_at_call 44; refine (HE.out _).mono ?_; rintro e w' ⟨rfl, hb⟩; obtain ⟨hc, hf⟩ := bcell hb; have hz := hb.size; try simp at hz) | (go_at_call 49; refine (HI.out _ _ _ _).mono ?_; rintro e w' ⟨rfl, rfl⟩))
            go_ret
            exact ⟨rfl, by (repeat (first | exact Below.refl _ _ | (with_reducible exact Hid.out (by assumption)) | refine below_al ?_ _ | refine below_dr ?_ | refine below_tr ?_ (by assumption) | refine below_tr ?_ (Bel.out (by assumption)) | refine below_tr ?_ (Bel.out (ov_bel _ _)) | refine below_set ?_ (by simp; try omega)))⟩
          · have hv := hD.out
            simp only [*, Bool.true_and, Bool.false_and, Bool.and_false, Bool.and_true, if_true, if_false, Bool.false_eq_true] at hv
            rw [hv]
            clear hv
            go_enter Tryz.func63, Tryz.ntmps63
            go_wp2_with (first | (go_at_call 23; refine (HF.out _ (by (repeat (first | exact Below.refl _ _ | (with_reducible exact Hid.out (by assumption)) | refine below_al ?_ _ | refine below_dr ?_ | refine below_tr ?_ (by assumption) | refine below_tr ?_ (Bel.out (by assumption)) | refine below_tr ?_ (Bel.out (ov_bel _ _)) | refine below_set ?_ (by simp; try omega))))).mono ?_; rintro e w' ⟨rfl, hb⟩; obtain ⟨hc, hf⟩ := bcell hb; have hz := hb.size; try simp at hz) | (go_at_call 44; refine (HE.out _).mono ?_; rintro e w' ⟨rfl, hb⟩; obtain ⟨hc, hf⟩ := bcell hb; have hz := hb.size; try simp at hz) | (go_at_call 49; refine (HI.out _ _ _ _).mono ?_; rintro e w' ⟨rfl, rfl⟩))
            go_ret
            exact ⟨rfl, by (repeat (first | exact Below.refl _ _ | (with_reducible exact Hid.out (by assumption)) | refine below_al ?_ _ | refine below_dr ?_ | refine below_tr ?_ (by assumption) | refine below_tr ?_ (Bel.out (by assumption)) | refine below_tr ?_ (Bel.out (ov_bel _ _)) | refine below_set ?_ (by simp; try omega)))⟩
        · have hv := hD.out
          simp only [*, Bool.true_and, Bool.false_and, Bool.and_false, Bool.and_true, if_true, if_false, Bool.false_eq_true] at hv
          rw [hv]
          clear hv
          go_enter Tryz.func63, Tryz.ntmps63
          go_wp2_with (first | (go_at_call 23; refine (HF.out _ (by (repeat (first | exact Below.refl _ _ | (with_reducible exact Hid.out (by assumption)) | refine below_al ?_ _ | refine below_dr ?_ | refine below_tr ?_ (by assumption) | refine below_tr ?_ (Bel.out (by assumption)) | refine below_tr ?_ (Bel.out (ov_bel _ _)) | refine below_set ?_ (by simp; try omega))))).mono ?_; rintro e w' ⟨rfl, hb⟩; obtain ⟨hc, hf⟩ := bcell hb; have hz := hb.size; try simp at hz) | (go_at_call 44; refine (HE.out _).mono ?_; rintro e w' ⟨rfl, hb⟩; obtain ⟨hc, hf⟩ := bcell hb; have hz := hb.size; try simp at hz) | (go_at_call 49; refine (HI.out _ _ _ _).mono ?_; rintro e w' ⟨rfl, rfl⟩))
          go_ret
          exact ⟨rfl, by (repeat (first | exact Below.refl _ _ | (with_reducible exact Hid.out (by assumption)) | refine below_al ?_ _ | refine below_dr ?_ | refine below_tr ?_ (by assumption) | refine below_tr ?_ (Bel.out (by assumption)) | refine below_tr ?_ (Bel.out (ov_bel _ _)) | refine below_set ?_ (by simp; try omega)))⟩
      · have hv := hD.out
        simp only [*, Bool.true_and, Bool.false_and, Bool.and_false, Bool.and_true, if_true, if_false, Bool.false_eq_true] at hv
        rw [hv]
        clear hv
        go_enter Tryz.func63, Tryz.ntmps63
        go_wp2_with (first | (go_at_call 23; refine (HF.out _ (by (repeat (first | exact Below.refl _ _ | (with_reducible exact Hid.out (by assumption)) | refine below_al ?_ _ | refine below_dr ?_ | refine below_tr ?_ (by assumption) | refine below_tr ?_ (Bel.out (by assumption)) | refine below_tr ?_ (Bel.out (ov_bel _ _)) | refine below_set ?_ (by simp; try omega))))).mono ?_; rintro e w' ⟨rfl, hb⟩; obtain ⟨hc, hf⟩ := bcell hb; have hz := hb.size; try simp at hz) | (go_at_call 44; refine (HE.out _).mono ?_; rintro e w' ⟨rfl, hb⟩; obtain ⟨hc, hf⟩ := bcell hb; have hz := hb.size; try simp at hz) | (go_at_call 49; refine (HI.out _ _ _ _).mono ?_; rintro e w' ⟨rfl, rfl⟩))
        go_ret
        exact ⟨rfl, by (repeat (first | exact Below.refl _ _ | (with_reducible exact Hid.out (by assumption)) | refine below_al ?_ _ | refine below_dr ?_ | refine below_tr ?_ (by assumption) | refine below_tr ?_ (Bel.out (by assumption)) | refine below_tr ?_ (Bel.out (ov_bel _ _)) | refine below_set ?_ (by simp; try omega)))⟩
    · have hv := hD.out
      simp only [*, Bool.true_and, Bool.false_and, Bool.and_false, Bool.and_true, if_true, if_false, Bool.false_eq_true] at hv
      rw [hv]
      clear hv
      go_enter Tryz.func63, Tryz.ntmps63
      go_wp2_with (first | (go_at_call 23; refine (HF.out _ (by (repeat (first | exact Below.refl _ _ | (with_reducible exact Hid.out (by assumption)) | refine below_al ?_ _ | refine below_dr ?_ | refine below_tr ?_ (by assumption) | refine below_tr ?_ (Bel.out (by assumption)) | refine below_tr ?_ (Bel.out (ov_bel _ _)) | refine below_set ?_ (by simp; try omega))))).mono ?_; rintro e w' ⟨rfl, hb⟩; obtain ⟨hc, hf⟩ := bcell hb; have hz := hb.size; try simp at hz) | (go_at_call 44; refine (HE.out _).mono ?_; rintro e w' ⟨rfl, hb⟩; obtain ⟨hc, hf⟩ := bcell hb; have hz := hb.size; try simp at hz) | (go_at_call 49; refine (HI.out _ _ _ _).mono ?_; rintro e w' ⟨rfl, rfl⟩))
      go_ret
      exact ⟨rfl, by (repeat (first | exact Below.refl _ _ | (with_reducible exact Hid.out (by assumption)) | refine below_al ?_ _ | refine below_dr ?_ | refine below_tr ?_ (by assumption) | refine below_tr ?_ (Bel.out (by assumption)) | refine below_tr ?_ (Bel.out (ov_bel _ _)) | refine below_set ?_ (by simp; try omega)))⟩
  · have hD : Hid (openE L [f, t] [s] k = faultL L) := Lib.hid (by unfold openE; rw [if_pos (by simpa using hf)])
    rw [hD.out]
    have hfd : (faultL L != 0) = true := by simpa using hf
    go_enter Tryz.func63, Tryz.ntmps63
    go_wp2_with (go_at_call 23; refine (HF.out _ (by (repeat (first | exact Below.refl _ _ | (with_reducible exact Hid.out (by assumption)) | refine below_al ?_ _ | refine below_dr ?_ | refine below_tr ?_ (by assumption) | refine below_tr ?_ (Bel.out (by assumption)) | refine below_tr ?_ (Bel.out (ov_bel _ _)) | refine below_set ?_ (by simp; try omega))))).mono ?_; rintro e w' ⟨rfl, hb⟩; obtain ⟨hc, hf⟩ := bcell hb; have hz := hb.size; try simp at hz)
    go_ret
    exact ⟨rfl, by (repeat (first | exact Below.refl _ _ | (with_reducible exact Hid.out (by assumption)) | refine below_al ?_ _ | refine below_dr ?_ | refine below_tr ?_ (by assumption) | refine below_tr ?_ (Bel.out (by assumption)) | refine below_tr ?_ (Bel.out (ov_bel _ _)) | refine below_set ?_ (by simp; try omega)))⟩
end Go.Proofs.YtdfohielnfdmkaaGreat

/- Walks: the reference of the relay: the earliest hours, hour by hour. -/
set_option linter.unusedVariables false
set_option linter.unusedSimpArgs false
namespace Go.Proofs.YtdfohielnfdmkaaGreat
open Go.RowKit
attribute [local go_sem low] cell_alloc_ite frozen_alloc_ite ov_cell ov_frozen

/-- An hour as the reference writes it: -1 for none. -/
def hv (E x : Nat) : Int := if x ≤ E then x else -1
/-- A row of ints of one's own. -/
structure RowI (w : World) (g n : Nat) (f : Nat → Int) : Prop where
  c : ∀ j, j < n → w.cell? ⟨g, j, none⟩ = some (.int .i64 (f j))
  fz : ∀ j, j < n → w.frozen? ⟨g, j, none⟩ = false
theorem RowI.below {w w' : World} {g n : Nat} {f : Nat → Int} (h : RowI w g n f) (hb : Below w.heap.size w w') : RowI w' g n f :=
  ⟨fun j hj => kept_of_below hb _ _ (h.c j hj), fun j hj => (hb.frozen (p := ⟨g, j, none⟩) (cell_lt (h.c j hj))).trans (h.fz j hj)⟩
theorem RowI.set {w : World} {g n : Nat} {f : Nat → Int} (h : RowI w g n f) (i : Nat) (v : Int) : RowI (w.setCell ⟨g, i, none⟩ (.int .i64 v)) g n (fun x => if x = i then v else f x) := by
  refine ⟨fun j hj => ?_, fun j hj => by rw [World.frozen?_setCell]; exact h.fz j hj⟩
  by_cases e : j = i
  · subst e; simp only [if_true]; exact cell_set (h.c j hj) _
  · simp only [e, if_false]; exact (World.cell?_setCell_other _ _ _ _ (by intro e'; cases e'; exact e rfl)).trans (h.c j hj)
theorem RowI.congr {w : World} {g n : Nat} {f f' : Nat → Int} (h : RowI w g n f) (e : ∀ j, j < n → f j = f' j) : RowI w g n f' := ⟨fun j hj => by rw [← e j hj]; exact h.c j hj, h.fz⟩
theorem RowI.row {w : World} {g n : Nat} {f : Nat → Int} (h : RowI w g n f) : RowAt w (some ⟨g, 0, none⟩) 1 encInt ((List.range n).map f) := by
  intro i x hx
  rw [List.getElem?_map] at hx
  cases hr : (List.range n)[i]? with
  | none => rw [hr] at hx; cases hx
  | some i' =>
    rw [hr] at hx
    obtain ⟨hl, he⟩ := List.getElem?_eq_some_iff.1 hr
    simp at he hl
    subst he
    simp at hx
    subst hx
    refine ⟨g, 0, rfl, fun j v hv => ?_⟩
    match j, hv with
    | 0, hv => cases hv; simpa using h.c i hl
theorem made_row (w : World) (n : Nat) (t : TypeId) : RowI (w.alloc (.cells (madeCells #[.int .i64 0] n) t)) w.heap.size n (fun _ => 0) := by
  refine ⟨fun j hj => ?_, fun j hj => World.frozen?_alloc_at (w := w) _ _ _ _ rfl⟩
  rw [World.cell?_alloc_at (w := w) _ _ _ _ rfl]
  simp [madeCells, hj, Nat.mod_one]

/-- The world of the reference's 'Earliest'. -/
structure ErW (w : World) (cs : List Value) (n E : Nat) (T : Nat → Nat) (wr : World) : Prop where
  row : RowI wr (w.heap.size + 1) n (fun x => hv E (T x))
  bel : Below w.heap.size w wr
  box : CellsAt wr w.heap.size cs
theorem ErW.below {w : World} {cs : List Value} {n E : Nat} {T : Nat → Nat} {wr wr' : World} (h : ErW w cs n E T wr) (hb : Below wr.heap.size wr wr') : ErW w cs n E T wr' := ⟨h.row.below hb, below_tr h.bel hb, h.box.kept (kept_of_below hb)⟩
theorem ErW.set {w : World} {cs : List Value} {n E : Nat} {T : Nat → Nat} {wr : World} (h : ErW w cs n E T wr) (B v : Nat) (hv' : v ≤ E) : ErW w cs n E (fun x => if x = B then v else T x) (wr.setCell ⟨w.heap.size + 1, B, none⟩ (.int .i64 v)) :=
  ⟨(h.row.set B v).congr (fun x hx => by by_cases e : x = B; simp [e, hv, hv']; simp [e]), h.bel.setCell (by simp) _, fun i v hv => (World.cell?_setCell_other _ _ _ _ (by intro e; have := congrArg Addr.block e; simp at this)).trans (h.box i v hv)⟩
/-- What the reference's 'Earliest' gives. -/
def REarl (L : Lnd) (out : Int) (src start k : Nat) (w : World) (e : Ending) (w' : World) : Prop :=
  ∃ A, e = .returned (.slice A L.st.length L.st.length) ∧ RowAt w' A 1 encInt ((List.range L.st.length).map fun b => hv L.su.length (eT L out src start k b)) ∧ Below w.heap.size w w'

set_option maxRecDepth 100000 in
set_option maxHeartbeats 8000000 in
theorem rearl_any (V : LV) (L : Lnd) (src start k : Nat) (out : Int) (w : World) (hr : RdL w V L) (ok : Okay L) (ls : src < L.st.length) (le : start ≤ L.su.length) (lk : k < L.ca.length) :
    Calls Tryz.prog 34 #[vLnd V L, .int .i64 src, .int .i64 start, .int .i64 k, .int .i64 out] w (REarl L out src start k w) := by
  have hs1 := ok.s1
  have hu1 := ok.u1
  have HE := Lib.hid (fun W => rend_any V L W hr.l3)
  have HC := Lib.hid (fun (a b h : Nat) (W : World) (hW : Below w.heap.size w W) (la : a < L.st.length) (lb : b < L.st.length) (lh : h < L.su.length) => rcan_any V L a b k h W (hr.below hW) ok la lb lk lh)
  obtain ⟨a0, c0, a1, c1, a2, c2, a3, c3⟩ := V
  simp only [vLnd] at *
  clear hr ok
  have hmk := fun W => run_make_row' (P := Tryz.prog) 40 3 (.int .i64 0) 8 Tryz.underlying40 info_int rfl .i64 .i64 L.st.length (by omega) (by omega) W
  go_enter Tryz.func34, Tryz.ntmps34
  go_wp2
  clear hmk
  generalize hA : (w.alloc (.cells #[.slice a0 L.st.length c0, .slice a1 L.ri.length c1, .slice a2 L.ca.length c2, .slice a3 L.su.length c3] 27)).alloc (.cells (madeCells #[.int .i64 0] L.st.length) 3) = wA
  have hBA : Below w.heap.size w wA := by subst hA; (repeat (first | exact Below.refl _ _ | (with_reducible exact Hid.out (by assumption)) | refine below_al ?_ _ | refine below_dr ?_ | refine below_tr ?_ (by assumption) | refine below_tr ?_ (Bel.out (by assumption)) | refine below_tr ?_ (Bel.out (ov_bel _ _)) | refine below_set ?_ (by simp; try omega)))
  have hbox : CellsAt wA w.heap.size [.slice a0 L.st.length c0, .slice a1 L.ri.length c1, .slice a2 L.ca.length c2, .slice a3 L.su.length c3] := by subst hA; exact cells4 (by (try go_simp); (repeat (simp only [↓IntWalk.iteOmega]; (try go_simp))); (try omega)) (by (try go_simp); (repeat (simp only [↓IntWalk.iteOmega]; (try go_simp))); (try omega)) (by (try go_simp); (repeat (simp only [↓IntWalk.iteOmega]; (try go_simp))); (try omega)) (by (try go_simp); (repeat (simp only [↓IntWalk.iteOmega]; (try go_simp))); (try omega))
  have hrow0 : RowI wA (w.heap.size + 1) L.st.length (fun _ => 0) := by
    subst hA
    have := made_row (w.alloc (.cells #[.slice a0 L.st.length c0, .slice a1 L.ri.length c1, .slice a2 L.ca.length c2, .slice a3 L.su.length c3] 27)) L.st.length 3
    simpa using this
  clear hA
  replace hBA := Lib.hid hBA
  replace hbox := Lib.hid hbox
  replace hrow0 := Lib.hid hrow0
  go_loopw [12] (fun n wr => ∃ (j : Nat) (f : Nat → Int), j ≤ L.st.length ∧ n = .int .i64 j ∧ RowI wr (w.heap.size + 1) L.st.length f ∧ (∀ x, x < j → f x = -1) ∧ Below w.heap.size w wr ∧ CellsAt wr w.heap.size [.slice a0 L.st.length c0, .slice a1 L.ri.length c1, .slice a2 L.ca.length c2, .slice a3 L.su.length c3]) (fun n _ => L.st.length - (intOf n).toNat)
  case atStart => exact ⟨0, _, Nat.zero_le _, rfl, hrow0.out, fun x hx => by omega, hBA.out, hbox.out⟩
  case round =>
    clear hrow0 hBA hbox wA
    obtain ⟨j, f, hj, rfl, hrow, hf, hb, hbox⟩ := hrel
    by_cases hlt : j < L.st.length
    · have xj := hrow.c j hlt
      have fj := hrow.fz j hlt
      have hset := Lib.hid (hrow.set j (-1))
      have hb2 : Hid (Below w.heap.size w (wr.setCell ⟨w.heap.size + 1, j, none⟩ (.int .i64 (-1)))) := Lib.hid (hb.setCell (by simp) _)
      have hbox2 : Hid (CellsAt (wr.setCell ⟨w.heap.size + 1, j, none⟩ (.int .i64 (-1))) w.heap.size [.slice a0 L.st.length c0, .slice a1 L.ri.length c1, .slice a2 L.ca.length c2, .slice a3 L.su.length c3]) := Lib.hid (fun i v hv => (World.cell?_setCell_other _ _ _ _ (by intro e; have := congrArg Addr.block e; simp at this)).trans (hbox i v hv))
      replace hf := Lib.hid hf
      clear hrow hb hbox
      go_wp2
      go_roundw
      case rel => exact ⟨j + 1, _, by omega, by go_num, hset.out, fun x hx => by by_cases e : x = j; simp [e]; simp [e]; exact hf.out x (by omega), hb2.out, hbox2.out⟩
      case measure => simp [intOf]; omega
    · obtain rfl : j = L.st.length := by omega
      have xs := hrow.c src ls
      have fs := hrow.fz src ls
      have hset : Hid (RowI (wr.setCell ⟨w.heap.size + 1, src, none⟩ (.int .i64 start)) (w.heap.size + 1) L.st.length (fun x => hv L.su.length (if x = src then start else L.su.length + 1))) := Lib.hid ((hrow.set src start).congr (fun x hx => by
        by_cases e : x = src
        · simp [e, hv, le]
        · simp only [e, if_false, hv]; rw [if_neg (by omega)]; exact hf x hx))
      have hb2 : Hid (Below w.heap.size w (wr.setCell ⟨w.heap.size + 1, src, none⟩ (.int .i64 start))) := Lib.hid (hb.setCell (by simp) _)
      have hbox2 : Hid (CellsAt (wr.setCell ⟨w.heap.size + 1, src, none⟩ (.int .i64 start)) w.heap.size [.slice a0 L.st.length c0, .slice a1 L.ri.length c1, .slice a2 L.ca.length c2, .slice a3 L.su.length c3]) := Lib.hid (fun i v hv => (World.cell?_setCell_other _ _ _ _ (by intro e; have := congrArg Addr.block e; simp at this)).trans (hbox i v hv))
      have hinv : Hid (RInv L.st.length L.su.length (gN L k out) src start start (fun x => if x = src then start else L.su.length + 1)) := Lib.hid (RInv.begin le)
      clear hrow hb hbox hf
      have hew : Hid (ErW w [.slice a0 L.st.length c0, .slice a1 L.ri.length c1, .slice a2 L.ca.length c2, .slice a3 L.su.length c3] L.st.length L.su.length (fun x => if x = src then start else L.su.length + 1) (wr.setCell ⟨w.heap.size + 1, src, none⟩ (.int .i64 start))) := Lib.hid ⟨hset.out, hb2.out, hbox2.out⟩
      clear hset hb2 hbox2
      go_wp2
      generalize wr.setCell ⟨w.heap.size + 1, src, none⟩ (.int .i64 start) = w1 at *
      clear xs fs wr
      go_loopw [13] (fun n wr => ∃ (h : Nat) (T : Nat → Nat), start ≤ h ∧ h ≤ L.su.length ∧ n = .int .i64 h ∧ RInv L.st.length L.su.length (gN L k out) src start h T ∧ ErW w [.slice a0 L.st.length c0, .slice a1 L.ri.length c1, .slice a2 L.ca.length c2, .slice a3 L.su.length c3] L.st.length L.su.length T wr) (fun n _ => L.su.length - (intOf n).toNat)
      case atStart => exact ⟨start, _, Nat.le_refl _, le, rfl, hinv.out, hew.out⟩
      case round =>
        clear hinv hew w1
        obtain ⟨h, T, hsh, hhE, rfl, hinv, hew⟩ := hrel
        have x0 := hew.box 0 _ rfl
        have x1 := hew.box 1 _ rfl
        have x2 := hew.box 2 _ rfl
        have x3 := hew.box 3 _ rfl
        have hl0 := cell_lt x0
        simp only at hl0
        replace hew := Lib.hid hew
        by_cases hlt : h < L.su.length
        · replace hinv := Lib.hid hinv.enter
          go_wp2_with (go_at_call 44; refine (HE.out _).mono ?_; rintro e w' ⟨rfl, hb⟩; obtain ⟨hc, hf⟩ := bcell hb; have hz := hb.size; try simp at hz)
          have hew2 := Lib.hid (hew.out.below hb)
          clear x0 x1 x2 x3 hc hf hew hb hz hl0
          go_loopw [14] (fun n wr => ∃ (A : Nat) (T : Nat → Nat), A ≤ L.st.length ∧ n = .int .i64 A ∧ RIn L.st.length L.su.length (gN L k out) src start h A 0 T ∧ ErW w [.slice a0 L.st.length c0, .slice a1 L.ri.length c1, .slice a2 L.ca.length c2, .slice a3 L.su.length c3] L.st.length L.su.length T wr) (fun n _ => L.st.length - (intOf n).toNat)
          case atStart => exact ⟨0, T, Nat.zero_le _, rfl, hinv.out, hew2.out⟩
          case round =>
            clear hinv hew2
            obtain ⟨A, T, hA, rfl, hin, hew⟩ := hrel
            by_cases hltA : A < L.st.length
            · replace hin := Lib.hid hin
              replace hew := Lib.hid hew
              go_wp2
              go_loopw [15] (fun n wr => ∃ (B : Nat) (T : Nat → Nat), B ≤ L.st.length ∧ n = .int .i64 B ∧ RIn L.st.length L.su.length (gN L k out) src start h A B T ∧ ErW w [.slice a0 L.st.length c0, .slice a1 L.ri.length c1, .slice a2 L.ca.length c2, .slice a3 L.su.length c3] L.st.length L.su.length T wr) (fun n _ => L.st.length - (intOf n).toNat)
              case atStart => exact ⟨0, T, Nat.zero_le _, rfl, hin.out, hew.out⟩
              case round =>
                clear hin hew
                obtain ⟨B, T, hB, rfl, hin, hew⟩ := hrel
                by_cases hltB : B < L.st.length
                · have xA := hew.row.c A hltA
                  have xB := hew.row.c B hltB
                  have fB := hew.row.fz B hltB
                  have x0 := hew.box 0 _ rfl
                  have x1 := hew.box 1 _ rfl
                  have x2 := hew.box 2 _ rfl
                  have x3 := hew.box 3 _ rfl
                  have hTB := hin.vals B hltB
                  replace hew := Lib.hid hew
                  cases hao : ((A : Int) != out) with
                  | false =>
                    have hk := Lib.hid (hin.keep hltB (fun ⟨_, _, q⟩ => by unfold gN at q; rw [hao] at q; simp at q))
                    clear hin
                    go_wp2
                    go_roundw
                    case rel => exact ⟨B + 1, T, by omega, by go_num, hk.out, hew.out⟩
                    case measure => simp [intOf]; omega
                  | true =>
                    cases hbo : ((B : Int) != out) with
                    | false =>
                      have hk := Lib.hid (hin.keep hltB (fun ⟨_, _, q⟩ => by unfold gN at q; rw [hbo] at q; simp at q))
                      clear hin
                      go_wp2
                      go_roundw
                      case rel => exact ⟨B + 1, T, by omega, by go_num, hk.out, hew.out⟩
                      case measure => simp [intOf]; omega
                    | true =>
                      by_cases hE1 : T A ≤ L.su.length
                      · rw [show hv L.su.length (T A) = (T A : Int) by unfold hv; rw [if_pos hE1]] at xA
                        by_cases hAh : T A ≤ h
                        · by_cases hBE : T B ≤ L.su.length
                          · rw [show hv L.su.length (T B) = (T B : Int) by unfold hv; rw [if_pos hBE]] at xB
                            have hk := Lib.hid (hin.keep hltB (fun ⟨_, q, _⟩ => by omega))
                            clear hin
                            go_wp2
                            go_roundw
                            case rel => exact ⟨B + 1, T, by omega, by go_num, hk.out, hew.out⟩
                            case measure => simp [intOf]; omega
                          · have hTB' : T B = L.su.length + 1 := by omega
                            rw [show hv L.su.length (T B) = -1 by unfold hv; rw [if_neg hBE]] at xB
                            have HCC := Lib.hid (HC.out A B h wr hew.out.bel hltA hltB hlt)
                            cases hcan : canN L A B k h with
                            | false =>
                              rw [hcan] at HCC
                              have hk := Lib.hid (hin.keep hltB (fun ⟨_, _, q⟩ => by unfold gN at q; rw [hcan] at q; simp at q))
                              clear hin
                              go_wp2_with (go_at_call 55; refine (HCC.out).mono ?_; rintro e w' ⟨rfl, hb⟩; obtain ⟨hc, hf⟩ := bcell hb; have hz := hb.size; try simp at hz)
                              go_roundw
                              case rel => exact ⟨B + 1, T, by omega, by go_num, hk.out, hew.out.below hb⟩
                              case measure => simp [intOf]; omega
                            | true =>
                              rw [hcan] at HCC
                              have hk := Lib.hid (hin.set hltA hltB hlt hsh hAh hTB' (by unfold gN; rw [hcan, hao, hbo]; rfl))
                              clear hin
                              have hlB := cell_lt xB
                              simp only at hlB
                              go_wp2_with (go_at_call 55; refine (HCC.out).mono ?_; rintro e w' ⟨rfl, hb⟩; obtain ⟨hc, hf⟩ := bcell hb; have hz := hb.size; try simp at hz)
                              go_roundw
                              case rel => exact ⟨B + 1, _, by omega, by go_num, hk.out, (hew.out.below hb).set B (h + 1) (by omega)⟩
                              case measure => simp [intOf]; omega
                        · have hk := Lib.hid (hin.keep hltB (fun ⟨q, _, _⟩ => hAh q))
                          clear hin
                          go_wp2
                          go_roundw
                          case rel => exact ⟨B + 1, T, by omega, by go_num, hk.out, hew.out⟩
                          case measure => simp [intOf]; omega
                      · rw [show hv L.su.length (T A) = -1 by unfold hv; rw [if_neg hE1]] at xA
                        have hk := Lib.hid (hin.keep hltB (fun ⟨q, _, _⟩ => by omega))
                        clear hin
                        go_wp2
                        go_roundw
                        case rel => exact ⟨B + 1, T, by omega, by go_num, hk.out, hew.out⟩
                        case measure => simp [intOf]; omega
                · obtain rfl : B = L.st.length := by omega
                  replace hin := Lib.hid hin.line
                  replace hew := Lib.hid hew
                  go_wp2
                  go_roundw
                  case rel => exact ⟨A + 1, T, by omega, by go_num, hin.out, hew.out⟩
                  case measure => simp [intOf]; omega
            · obtain rfl : A = L.st.length := by omega
              replace hin := Lib.hid hin.leave
              replace hew := Lib.hid hew
              go_wp2
              go_roundw
              case rel => exact ⟨h + 1, T, by omega, by omega, by go_num, hin.out, hew.out⟩
              case measure => simp [intOf]; omega
        · obtain rfl : h = L.su.length := by omega
          have htab := hinv.table
          have heq : Hid (RowI wr (w.heap.size + 1) L.st.length (fun b => hv L.su.length (eT L out src start k b))) := Lib.hid (hew.out.row.congr (fun j hj => by rw [tab_eq le htab hj]; rfl))
          clear hinv htab
          go_wp2_with (go_at_call 44; refine (HE.out _).mono ?_; rintro e w' ⟨rfl, hb⟩; obtain ⟨hc, hf⟩ := bcell hb; have hz := hb.size; try simp at hz)
          go_ret
          exact ⟨_, rfl, (heq.out.below hb).row, below_tr hew.out.bel hb⟩
end Go.Proofs.YtdfohielnfdmkaaGreat

/- Walks: the reference of the relay: Sure, Stuck, Latest. -/
set_option linter.unusedVariables false
set_option linter.unusedSimpArgs false
namespace Go.Proofs.YtdfohielnfdmkaaGreat
open Go.RowKit
attribute [local go_sem low] cell_alloc_ite frozen_alloc_ite ov_cell ov_frozen

/-- The sure hour and its first case, as the reference writes them. -/
noncomputable def rsureR (L : Lnd) (src dst start : Nat) : Int × Int :=
  if (L.su.length : Int) < (sureTo (fun k => eT L (-1) src start k dst) L.ca.length).1 then (-1, 0)
  else ((sureTo (fun k => eT L (-1) src start k dst) L.ca.length).1, (sureTo (fun k => eT L (-1) src start k dst) L.ca.length).2)

set_option maxRecDepth 100000 in
set_option maxHeartbeats 8000000 in
theorem rsure_any (V : LV) (L : Lnd) (src dst start : Nat) (w : World) (hr : RdL w V L) (ok : Okay L) (ls : src < L.st.length) (ld : dst < L.st.length) (le : start ≤ L.su.length) :
    Calls Tryz.prog 35 #[vLnd V L, .int .i64 src, .int .i64 dst, .int .i64 start] w fun e w' => e = .returned (.tuple #[.int .i64 (rsureR L src dst start).1, .int .i64 (rsureR L src dst start).2]) ∧ Below w.heap.size w w' := by
  have hs1 := ok.s1
  have hu1 := ok.u1
  have hc1 := ok.c1
  have HE := Lib.hid (fun (k : Nat) (W : World) (hW : Below w.heap.size w W) (lk : k < L.ca.length) => rearl_any V L src start k (-1) W (hr.below hW) ok ls le lk)
  obtain ⟨f, hf⟩ : ∃ f : Nat → Nat, f = fun k => eT L (-1) src start k dst := ⟨_, rfl⟩
  have HF : Hid (∀ k, f k ≤ L.su.length + 1) := Lib.hid (fun k => by rw [hf]; exact eT_le le ld)
  have HV : Hid (∀ k, ((List.range L.st.length).map fun b => hv L.su.length (eT L (-1) src start k b))[dst]? = some (hv L.su.length (f k))) := Lib.hid (fun k => by
    rw [List.getElem?_map, List.getElem?_range ld, hf]; rfl)
  have HR : Hid (rsureR L src dst start = if (L.su.length : Int) < (sureTo f L.ca.length).1 then (-1, 0) else ((sureTo f L.ca.length).1, ((sureTo f L.ca.length).2 : Int))) := Lib.hid (by rw [hf]; rfl)
  obtain ⟨r, hrr⟩ : ∃ r, r = rsureR L src dst start := ⟨_, rfl⟩
  rw [← hrr]
  rw [← hrr] at HR
  unfold REarl at HE
  clear hrr hf ok hr
  obtain ⟨a0, c0, a1, c1, a2, c2, a3, c3⟩ := V
  simp only [vLnd] at *
  go_enter Tryz.func35, Tryz.ntmps35
  go_wp2
  generalize hA : w.alloc (.cells #[.slice a0 L.st.length c0, .slice a1 L.ri.length c1, .slice a2 L.ca.length c2, .slice a3 L.su.length c3] 27) = wA
  have hBA : Below w.heap.size w wA := by subst hA; (repeat (first | exact Below.refl _ _ | (with_reducible exact Hid.out (by assumption)) | refine below_al ?_ _ | refine below_dr ?_ | refine below_tr ?_ (by assumption) | refine below_tr ?_ (Bel.out (by assumption)) | refine below_tr ?_ (Bel.out (ov_bel _ _)) | refine below_set ?_ (by simp; try omega)))
  have hbox : CellsAt wA w.heap.size [.slice a0 L.st.length c0, .slice a1 L.ri.length c1, .slice a2 L.ca.length c2, .slice a3 L.su.length c3] := by subst hA; exact cells4 (by (try go_simp); (repeat (simp only [↓IntWalk.iteOmega]; (try go_simp))); (try omega)) (by (try go_simp); (repeat (simp only [↓IntWalk.iteOmega]; (try go_simp))); (try omega)) (by (try go_simp); (repeat (simp only [↓IntWalk.iteOmega]; (try go_simp))); (try omega)) (by (try go_simp); (repeat (simp only [↓IntWalk.iteOmega]; (try go_simp))); (try omega))
  clear hA
  replace hBA := Lib.hid hBA
  replace hbox := Lib.hid hbox
  go_loopw [12, 10, 11] (fun n h c wr => ∃ j : Nat, j ≤ L.ca.length ∧ n = .int .i64 j ∧ h = .int .i64 (sureTo f j).1 ∧ c = .int .i64 (sureTo f j).2 ∧ (∀ k, k < j → f k ≤ L.su.length) ∧ Below wA.heap.size wA wr) (fun n _ _ _ => L.ca.length - (intOf n).toNat)
  case atStart => exact ⟨0, Nat.zero_le _, rfl, rfl, rfl, fun k hk => by omega, Below.refl _ _⟩
  case round =>
    obtain ⟨j, hj, rfl, rfl, rfl, hall, hbr⟩ := hrel
    have hk := kept_of_below hbr
    have x0 := hk _ _ (hbox.out 0 _ rfl)
    have x1 := hk _ _ (hbox.out 1 _ rfl)
    have x2 := hk _ _ (hbox.out 2 _ rfl)
    have x3 := hk _ _ (hbox.out 3 _ rfl)
    have hbw := Lib.hid (below_tr hBA.out hbr)
    clear hk
    by_cases hlt : j < L.ca.length
    · replace hall := Lib.hid hall
      have hfb := HF.out j
      go_wp2_with fail
      refine (HE.out j _ (below_tr hBA.out hbr) hlt).mono ?_
      rintro e w2 ⟨A, rfl, hrow, hb2⟩
      obtain ⟨b, o, hA, e0⟩ := hrow.num (HV.out j)
      subst hA
      have hbr2 := Lib.hid (hbr.trans (hb2.mono hbr.size))
      have hbw2 := Lib.hid (below_tr hbw.out hb2)
      clear hrow hb2 hbr x0 x1 x2 x3
      by_cases hE : f j ≤ L.su.length
      · rw [show hv L.su.length (f j) = (f j : Int) by unfold hv; rw [if_pos hE]] at e0
        cases hcmp : decide ((sureTo f j).1 < (f j : Int)) with
        | true =>
          have hnx : Hid (sureTo f (j + 1) = ((f j : Int), j)) := Lib.hid (by simp only [sureTo]; rw [if_pos (by simpa using hcmp)])
          go_wp2
          go_roundw
          case rel => exact ⟨j + 1, by omega, by go_num, by rw [hnx.out], by rw [hnx.out], fun k hk => by by_cases e : k = j; subst e; exact hE; exact hall.out k (by omega), hbr2.out⟩
          case measure => simp [intOf]; omega
        | false =>
          have hnx : Hid (sureTo f (j + 1) = sureTo f j) := Lib.hid (by simp only [sureTo]; rw [if_neg (by simpa using hcmp)])
          go_wp2
          go_roundw
          case rel => exact ⟨j + 1, by omega, by go_num, by rw [hnx.out], by rw [hnx.out], fun k hk => by by_cases e : k = j; subst e; exact hE; exact hall.out k (by omega), hbr2.out⟩
          case measure => simp [intOf]; omega
      · rw [show hv L.su.length (f j) = -1 by unfold hv; rw [if_neg hE]] at e0
        have hres : Hid (r = (-1, 0)) := Lib.hid (by rw [HR.out, if_pos (by have := sureTo_ge f L.ca.length j hlt; omega)])
        go_wp2
        go_ret2
        exact ⟨by rw [hres.out]; rfl, hbw2.out⟩
    · obtain rfl : j = L.ca.length := by omega
      have hres : Hid (r = ((sureTo f L.ca.length).1, ((sureTo f L.ca.length).2 : Int))) := Lib.hid (by rw [HR.out, if_neg (by have := sureTo_hi f L.su.length (by omega) L.ca.length (fun k hk => by have := hall k hk; omega); omega)])
      clear hall hbr
      go_wp2
      go_ret2
      exact ⟨by rw [hres.out]; rfl, hbw.out⟩

/-- The last of the starts before m at which the dispatch comes by an hour. -/
def rlatTo (q : Nat → Int) (by_ : Int) : Nat → Int
  | 0 => -1
  | s + 1 => if 0 ≤ q s ∧ q s ≤ by_ then (s : Int) else rlatTo q by_ s
/-- The latest start, as the reference writes it. -/
noncomputable def rlatR (L : Lnd) (src dst : Nat) (by_ : Int) : Int := rlatTo (fun s => (rsureR L src dst s).1) by_ (L.su.length + 1)

set_option maxRecDepth 100000 in
set_option maxHeartbeats 8000000 in
theorem rlat_any (V : LV) (L : Lnd) (src dst : Nat) (by_ : Int) (w : World) (hr : RdL w V L) (ok : Okay L) (ls : src < L.st.length) (ld : dst < L.st.length) :
    Calls Tryz.prog 20 #[vLnd V L, .int .i64 src, .int .i64 dst, .int .i64 by_] w fun e w' => e = .returned (.int .i64 (rlatR L src dst by_)) ∧ Below w.heap.size w w' := by
  have hu1 := ok.u1
  have hl3 := hr.l3
  have HS := Lib.hid (fun (s : Nat) (W : World) (hW : Below w.heap.size w W) (l : s ≤ L.su.length) => rsure_any V L src dst s W (hr.below hW) ok ls ld l)
  have HE := Lib.hid (fun W => rend_any V L W hl3)
  obtain ⟨q, hq⟩ : ∃ q : Nat → Int, q = fun s => (rsureR L src dst s).1 := ⟨_, rfl⟩
  have HQ : Hid (∀ s, (rsureR L src dst s).1 = q s) := Lib.hid (fun s => by rw [hq])
  have HR : Hid (rlatR L src dst by_ = rlatTo q by_ (L.su.length + 1)) := Lib.hid (by rw [hq]; rfl)
  obtain ⟨r, hrr⟩ : ∃ r, r = rlatR L src dst by_ := ⟨_, rfl⟩
  rw [← hrr]
  rw [← hrr] at HR
  clear hrr hq ok hr
  obtain ⟨a0, c0, a1, c1, a2, c2, a3, c3⟩ := V
  simp only [vLnd] at *
  go_enter Tryz.func20, Tryz.ntmps20
  go_wp2
  generalize hA : w.alloc (.cells #[.slice a0 L.st.length c0, .slice a1 L.ri.length c1, .slice a2 L.ca.length c2, .slice a3 L.su.length c3] 27) = wA
  have hBA : Below w.heap.size w wA := by subst hA; (repeat (first | exact Below.refl _ _ | (with_reducible exact Hid.out (by assumption)) | refine below_al ?_ _ | refine below_dr ?_ | refine below_tr ?_ (by assumption) | refine below_tr ?_ (Bel.out (by assumption)) | refine below_tr ?_ (Bel.out (ov_bel _ _)) | refine below_set ?_ (by simp; try omega)))
  have hbox : CellsAt wA w.heap.size [.slice a0 L.st.length c0, .slice a1 L.ri.length c1, .slice a2 L.ca.length c2, .slice a3 L.su.length c3] := by subst hA; exact cells4 (by (try go_simp); (repeat (simp only [↓IntWalk.iteOmega]; (try go_simp))); (try omega)) (by (try go_simp); (repeat (simp only [↓IntWalk.iteOmega]; (try go_simp))); (try omega)) (by (try go_simp); (repeat (simp only [↓IntWalk.iteOmega]; (try go_simp))); (try omega)) (by (try go_simp); (repeat (simp only [↓IntWalk.iteOmega]; (try go_simp))); (try omega))
  have hzA : w.heap.size < wA.heap.size := by subst hA; simp
  clear hA
  replace hBA := Lib.hid hBA
  replace hbox := Lib.hid hbox
  go_loopw [10, 9] (fun n v wr => ∃ s : Nat, s ≤ L.su.length + 1 ∧ n = .int .i64 s ∧ v = .int .i64 (rlatTo q by_ s) ∧ Below wA.heap.size wA wr) (fun n _ _ => L.su.length + 1 - (intOf n).toNat)
  case atStart => exact ⟨0, Nat.zero_le _, rfl, rfl, Below.refl _ _⟩
  case round =>
    obtain ⟨s, hs, rfl, rfl, hbr⟩ := hrel
    have hk := kept_of_below hbr
    have x0 := hk _ _ (hbox.out 0 _ rfl)
    have x1 := hk _ _ (hbox.out 1 _ rfl)
    have x2 := hk _ _ (hbox.out 2 _ rfl)
    have x3 := hk _ _ (hbox.out 3 _ rfl)
    have hzr := hbr.size
    replace hbr := Lib.hid hbr
    clear hk
    by_cases hlt : s < L.su.length + 1
    · go_wp2_with (go_at_call 44; refine (HE.out _).mono ?_; rintro e w' ⟨rfl, hb⟩; obtain ⟨hc, hf⟩ := bcell hb; have hz := hb.size; try simp at hz)
      have hb2 : Below w.heap.size w w' := below_tr (below_tr hBA.out hbr.out) hb
      refine (HS.out s _ hb2 (by omega)).mono ?_
      rw [HQ.out]
      rintro e w2 ⟨rfl, hb3⟩
      have hbr2 := Lib.hid (hbr.out.trans ((hb.trans (hb3.mono hz)).mono hbr.out.size))
      clear hb hb2 hb3 hc hf x0 x1 x2 x3
      have hst : Hid (rlatTo q by_ (s + 1) = if 0 ≤ q s ∧ q s ≤ by_ then (s : Int) else rlatTo q by_ s) := Lib.hid rfl
      by_cases h0 : 0 ≤ q s
      · by_cases h1 : q s ≤ by_
        · go_wp2
          go_roundw
          case rel => exact ⟨s + 1, by omega, by go_num, by rw [hst.out, if_pos ⟨h0, h1⟩], hbr2.out⟩
          case measure => simp [intOf]; omega
        · go_wp2
          go_roundw
          case rel => exact ⟨s + 1, by omega, by go_num, by rw [hst.out, if_neg (by omega)], hbr2.out⟩
          case measure => simp [intOf]; omega
      · go_wp2
        go_roundw
        case rel => exact ⟨s + 1, by omega, by go_num, by rw [hst.out, if_neg (by omega)], hbr2.out⟩
        case measure => simp [intOf]; omega
    · obtain rfl : s = L.su.length + 1 := by omega
      go_wp2_with (go_at_call 44; refine (HE.out _).mono ?_; rintro e w' ⟨rfl, hb⟩; obtain ⟨hc, hf⟩ := bcell hb; have hz := hb.size; try simp at hz)
      go_ret
      exact ⟨by rw [HR.out]; rfl, below_tr (below_tr hBA.out hbr.out) hb⟩
end Go.Proofs.YtdfohielnfdmkaaGreat

/- Walks: the reference of the relay: Stuck. -/
set_option linter.unusedVariables false
set_option linter.unusedSimpArgs false
namespace Go.Proofs.YtdfohielnfdmkaaGreat
open Go.RowKit
attribute [local go_sem low] cell_alloc_ite frozen_alloc_ite ov_cell ov_frozen

/-- The cases in which a dispatch does not come through, one station left out. -/
noncomputable def rstuckR (L : Lnd) (out : Int) (src dst start : Nat) : List Int := fiTo (fun k => decide (L.su.length < eT L out src start k dst)) L.ca.length
set_option maxRecDepth 100000 in
set_option maxHeartbeats 8000000 in
theorem rstuck_any (V : LV) (L : Lnd) (src dst start : Nat) (out : Int) (w : World) (hr : RdL w V L) (ok : Okay L) (ls : src < L.st.length) (ld : dst < L.st.length) (le : start ≤ L.su.length) :
    Calls Tryz.prog 21 #[vLnd V L, .int .i64 src, .int .i64 dst, .int .i64 start, .int .i64 out] w fun e w' => ∃ A c, e = .returned (.slice A (rstuckR L out src dst start).length c) ∧ RowAt w' A 1 encInt (rstuckR L out src dst start) ∧ (rstuckR L out src dst start).length ≤ c ∧ Below w.heap.size w w' := by
  have hs1 := ok.s1
  have hu1 := ok.u1
  have hc1 := ok.c1
  have HE := Lib.hid (fun (k : Nat) (W : World) (hW : Below w.heap.size w W) (lk : k < L.ca.length) => rearl_any V L src start k out W (hr.below hW) ok ls le lk)
  obtain ⟨f, hf⟩ : ∃ f : Nat → Nat, f = fun k => eT L out src start k dst := ⟨_, rfl⟩
  have HV : Hid (∀ k, ((List.range L.st.length).map fun b => hv L.su.length (eT L out src start k b))[dst]? = some (hv L.su.length (f k))) := Lib.hid (fun k => by
    rw [List.getElem?_map, List.getElem?_range ld, hf]; rfl)
  have HR : Hid (rstuckR L out src dst start = fiTo (fun k => decide (L.su.length < f k)) L.ca.length) := Lib.hid (by rw [hf]; rfl)
  obtain ⟨r, hrr⟩ : ∃ r, r = rstuckR L out src dst start := ⟨_, rfl⟩
  rw [← hrr]
  rw [← hrr] at HR
  obtain ⟨q, hq⟩ : ∃ q : Nat → Bool, q = fun k => decide (L.su.length < f k) := ⟨_, rfl⟩
  rw [← hq] at HR
  have HQ : Hid (∀ k, q k = decide (L.su.length < f k)) := Lib.hid (fun k => by rw [hq])
  unfold REarl at HE
  clear hrr hf ok hr hq
  obtain ⟨a0, c0, a1, c1, a2, c2, a3, c3⟩ := V
  simp only [vLnd] at *
  obtain ⟨i0, hi0, hz0, hz1, hz2⟩ := info_parts info_int
  go_enter Tryz.func21, Tryz.ntmps21
  go_wp2
  generalize hA : w.alloc (.cells #[.slice a0 L.st.length c0, .slice a1 L.ri.length c1, .slice a2 L.ca.length c2, .slice a3 L.su.length c3] 27) = wA
  have hBA : Below w.heap.size w wA := by subst hA; (repeat (first | exact Below.refl _ _ | (with_reducible exact Hid.out (by assumption)) | refine below_al ?_ _ | refine below_dr ?_ | refine below_tr ?_ (by assumption) | refine below_tr ?_ (Bel.out (by assumption)) | refine below_tr ?_ (Bel.out (ov_bel _ _)) | refine below_set ?_ (by simp; try omega)))
  have hbox : CellsAt wA w.heap.size [.slice a0 L.st.length c0, .slice a1 L.ri.length c1, .slice a2 L.ca.length c2, .slice a3 L.su.length c3] := by subst hA; exact cells4 (by (try go_simp); (repeat (simp only [↓IntWalk.iteOmega]; (try go_simp))); (try omega)) (by (try go_simp); (repeat (simp only [↓IntWalk.iteOmega]; (try go_simp))); (try omega)) (by (try go_simp); (repeat (simp only [↓IntWalk.iteOmega]; (try go_simp))); (try omega)) (by (try go_simp); (repeat (simp only [↓IntWalk.iteOmega]; (try go_simp))); (try omega))
  clear hA
  replace hBA := Lib.hid hBA
  replace hbox := Lib.hid hbox
  go_loopw [12, 11] (fun n v wr => ∃ m : Nat, m ≤ L.ca.length ∧ n = .int .i64 m ∧ wr.ownsRow wA.heap.size 3 1 v (fiTo q m).length ((fiTo q m).map (Value.int .i64)) ∧ Below wA.heap.size wA wr) (fun n _ _ => L.ca.length - (intOf n).toNat)
  case atStart => exact ⟨0, Nat.zero_le _, rfl, World.ownsRow_nil _ _ _ _, Below.refl _ _⟩
  case round =>
    obtain ⟨m, hm, rfl, hown, hbr⟩ := hrel
    have hk := kept_of_below hbr
    have x0 := hk _ _ (hbox.out 0 _ rfl)
    have x1 := hk _ _ (hbox.out 1 _ rfl)
    have x2 := hk _ _ (hbox.out 2 _ rfl)
    have x3 := hk _ _ (hbox.out 3 _ rfl)
    have hbw := Lib.hid (below_tr hBA.out hbr)
    have hsn := Lib.hid (fiTo_succ q m)
    clear hk
    by_cases hlt : m < L.ca.length
    · go_wp2_with fail
      refine (HE.out m _ hbw.out hlt).mono ?_
      rintro e w2 ⟨A, rfl, hrow, hb2⟩
      obtain ⟨b, o, hA, e0⟩ := hrow.num (HV.out m)
      subst hA
      have hbr2 := hbr.trans (hb2.mono hbr.size)
      have hown2 := owns_below hown hb2
      have hsz2 := hbr2.size
      have hlo := Lib.hid hown2.lt
      have hln := fiTo_len q m
      clear hrow hb2 hbr x0 x1 x2 x3 hown
      by_cases hE : f m ≤ L.su.length
      · have hno : Hid (q m = false) := Lib.hid (by rw [HQ.out]; exact decide_eq_false (by omega))
        rw [show hv L.su.length (f m) = (f m : Int) by unfold hv; rw [if_pos hE]] at e0
        replace hbr2 := Lib.hid hbr2
        replace hown2 := Lib.hid hown2
        go_wp2
        go_roundw
        case rel => exact ⟨m + 1, by omega, by go_num, by rw [hsn.out]; simp only [hno.out, Bool.false_eq_true, if_false, List.append_nil]; exact hown2.out, hbr2.out⟩
        case measure => simp [intOf]; omega
      · have hyes : Hid (q m = true) := Lib.hid (by rw [HQ.out]; exact decide_eq_true (by omega))
        rw [show hv L.su.length (f m) = -1 by unfold hv; rw [if_neg hE]] at e0
        go_wp2_with (at_builtin; refine wpList_append_own _ rfl _ _ 40 rfl wA.heap.size 3 i0 (.int .i64 0) 1 8 Tryz.underlying40 hi0 hz0 hz1 hz2 rfl (by decide) _ _ _ rfl (hown2.alloc _) ⟨w2.heap.size, 0, none⟩ 1 1 [.int .i64 m] rfl rfl ?c1 ?c2 ?c3 ?c4 ?c5 ?_)
        case c1 => exact cell_one_new _ _ _
        case c2 => simp [Value.oneCell']
        case c3 => unfold maxLen; omega
        case c4 => omega
        case c5 => simp; omega
        intro v' w4 hown4 hgrow _
        have hB4 : Below wA.heap.size wA w4 := Below.grown (w := w2.alloc (.cells #[.int .i64 m] 3)) (hbr2.alloc hsz2 _) hgrow (by simp; omega) (fun k hk => (hlo.out k hk).1)
        replace hB4 := Lib.hid hB4
        replace hown4 := Lib.hid hown4
        clear hgrow hbr2 hown2
        go_wp2
        go_roundw
        case rel => exact ⟨m + 1, by omega, by go_num, by rw [hsn.out]; simp only [hyes.out, if_true, List.length_append, List.map_append]; exact hown4.out, hB4.out⟩
        case measure => simp [intOf]; omega
    · obtain rfl : m = L.ca.length := by omega
      rw [← HR.out] at hown
      obtain ⟨A, cc, hv, hrow, hlc, _⟩ := row_of_ints hown
      subst hv
      replace hrow := Lib.hid hrow
      clear hown hbr x0 x1 x3
      go_wp2
      go_ret
      exact ⟨A, cc, rfl, hrow.out, hlc, hbw.out⟩
end Go.Proofs.YtdfohielnfdmkaaGreat

/- Walks: helpers of the laws: asked, wall, ints. -/
set_option linter.unusedVariables false
set_option linter.unusedSimpArgs false
namespace Go.Proofs.YtdfohielnfdmkaaGreat
open Go.RowKit
attribute [local go_sem low] cell_alloc_ite frozen_alloc_ite ov_cell ov_frozen

theorem lasked_any (V : LV) (L : Lnd) (f t s k : Int) (w : World) (hr : RdL w V L) :
    Calls Tryz.prog 19 #[vLnd V L, .int .i64 f, .int .i64 t, .int .i64 s, .int .i64 k] w fun e w' => e = .returned (.int .i64 (openE L [f, t] [s] k)) ∧ Below w.heap.size w w' := by
  have HA := Lib.hid (fun W (hW : Below w.heap.size w W) => rasked_any V L f t s k W (hr.below hW))
  obtain ⟨a0, c0, a1, c1, a2, c2, a3, c3⟩ := V
  simp only [vLnd] at *
  clear hr
  go_enter Tryz.func19, Tryz.ntmps19
  go_wp2_with (go_at_call 63; refine (HA.out _ (by (repeat (first | exact Below.refl _ _ | (with_reducible exact Hid.out (by assumption)) | refine below_al ?_ _ | refine below_dr ?_ | refine below_tr ?_ (by assumption) | refine below_tr ?_ (Bel.out (by assumption)) | refine below_tr ?_ (Bel.out (ov_bel _ _)) | refine below_set ?_ (by simp; try omega))))).mono ?_; rintro e w' ⟨rfl, hb⟩; obtain ⟨hc, hf⟩ := bcell hb; have hz := hb.size; try simp at hz)
  go_ret
  exact ⟨rfl, by (repeat (first | exact Below.refl _ _ | (with_reducible exact Hid.out (by assumption)) | refine below_al ?_ _ | refine below_dr ?_ | refine below_tr ?_ (by assumption) | refine below_tr ?_ (Bel.out (by assumption)) | refine below_tr ?_ (Bel.out (ov_bel _ _)) | refine below_set ?_ (by simp; try omega)))⟩

theorem lwall_any (x1 y1 x2 y2 b t : Int) (w : World) : Calls Tryz.prog 60 #[vWal ⟨x1, y1, x2, y2, b, t⟩] w fun e w' => e = .returned (vWal ⟨x1, y1, x2, y2, b, t⟩) ∧ Below w.heap.size w w' := by
  simp only [vWal]
  go_enter Tryz.func60, Tryz.ntmps60
  go_wp2
  refine bodyPost_ret (v := .agg #[.int .i64 x1, .int .i64 y1, .int .i64 x2, .int .i64 y2, .int .i64 b, .int .i64 t]) (by simp [results, Tryz.results60, go_sem]) rfl ?_
  exact ⟨rfl, by (repeat (first | exact Below.refl _ _ | (with_reducible exact Hid.out (by assumption)) | refine below_al ?_ _ | refine below_dr ?_ | refine below_tr ?_ (by assumption) | refine below_tr ?_ (Bel.out (by assumption)) | refine below_tr ?_ (Bel.out (ov_bel _ _)) | refine below_set ?_ (by simp; try omega)))⟩

set_option maxHeartbeats 4000000 in
theorem lints_any (A B : Option Addr) (ca cb : Nat) (xs ys : List Int) (w : World) (hx : RowAt w A 1 encInt xs) (hy : RowAt w B 1 encInt ys) (lx : xs.length ≤ 100) (ly : ys.length ≤ 100) :
    Calls Tryz.prog 22 #[.slice A xs.length ca, .slice B ys.length cb] w fun e w' => e = .returned (.bool (decide (xs = ys))) ∧ Below w.heap.size w w' := by
  have HX := Lib.hid hx
  have HY := Lib.hid hy
  obtain ⟨r, hr⟩ : ∃ r, decide (xs = ys) = r := ⟨_, rfl⟩
  rw [hr]
  have HR := Lib.hid hr
  clear hx hy hr
  by_cases hl : xs.length = ys.length
  · have hld : ((xs.length : Int) != ys.length) = false := by rw [hl]; simp
    rw [hl]
    go_enter Tryz.func22, Tryz.ntmps22
    go_wp2
    go_loopw [5] (fun n wr => ∃ j : Nat, j ≤ ys.length ∧ n = .int .i64 j ∧ (∀ i, i < j → xs[i]? = ys[i]?) ∧ Below w.heap.size w wr) (fun n _ => ys.length - (intOf n).toNat)
    case atStart => exact ⟨0, Nat.zero_le _, rfl, fun i hi => by omega, Below.refl _ _⟩
    case round =>
      obtain ⟨j, hj, rfl, hall, hb⟩ := hrel
      by_cases hlt : j < ys.length
      · have hx := List.getElem?_eq_getElem (show j < xs.length by omega)
        have hy := List.getElem?_eq_getElem hlt
        obtain ⟨b, o, hA, e0⟩ := (HX.out.kept (kept_of_below hb)).num hx
        obtain ⟨b2, o2, hB, f0⟩ := (HY.out.kept (kept_of_below hb)).num hy
        have HXx := Lib.hid hx
        have HYy := Lib.hid hy
        generalize xs[j] = x at *
        generalize ys[j] = y at *
        subst hA hB
        have hl1 := cell_lt e0
        have hl2 := cell_lt f0
        simp only at hl1 hl2
        replace hall := Lib.hid hall
        replace hb := Lib.hid hb
        clear hx hy
        by_cases hxy : x = y
        · have hc : (x != y) = false := by rw [hxy]; simp
          replace hxy := Lib.hid hxy
          go_wp2
          (refine wp_region_ov (by kernel_rfl) (by kernel_rfl) (fun R hR => ?_); (repeat (go_big_quiet_step (fail))); refine wpQuiet_nil ?_; refine hR.out _ ?_; clear hR R; intro W hW; have hc := hW.cells; have hf := hW.frozens; have hz := hW.size; (try simp at hz))
          have hb2 := Lib.hid (below_tr hb.out hW.out)
          clear hc hW
          go_wp2
          go_roundw
          case rel => exact ⟨j + 1, by omega, by go_num, fun i hi => by by_cases e : i = j; subst e; rw [HXx.out, HYy.out, hxy.out]; exact hall.out i (by omega), hb2.out⟩
          case measure => simp [intOf]; omega
        · have hc : (x != y) = true := by simpa using hxy
          have hres : Hid (r = false) := Lib.hid (by rw [← HR.out]; exact decide_eq_false (fun h => by have := HXx.out; rw [h, HYy.out] at this; cases this; exact hxy rfl))
          replace hxy := Lib.hid hxy
          go_wp2
          (refine wp_region_ov (by kernel_rfl) (by kernel_rfl) (fun R hR => ?_); (repeat (go_big_quiet_step (fail))); refine wpQuiet_nil ?_; refine hR.out _ ?_; clear hR R; intro W hW; have hc := hW.cells; have hf := hW.frozens; have hz := hW.size; (try simp at hz))
          have hb2 := Lib.hid (below_tr hb.out hW.out)
          go_wp2
          go_ret
          exact ⟨by rw [hres.out]; rfl, hb2.out⟩
      · obtain rfl : j = ys.length := by omega
        have hres : Hid (r = true) := Lib.hid (by
          rw [← HR.out]
          refine decide_eq_true (List.ext_getElem? fun i => ?_)
          by_cases hi : i < ys.length
          · exact hall i hi
          · rw [List.getElem?_eq_none (by omega), List.getElem?_eq_none (by omega)])
        replace hb := Lib.hid hb
        clear hall
        go_wp2
        go_ret
        exact ⟨by rw [hres.out]; rfl, hb.out⟩
  · have hld : ((xs.length : Int) != ys.length) = true := by simpa using (by omega : ¬ (xs.length : Int) = ys.length)
    have hres : Hid (r = false) := Lib.hid (by rw [← HR.out]; exact decide_eq_false (fun h => hl (by rw [h])))
    go_enter Tryz.func22, Tryz.ntmps22
    go_wp2
    go_ret
    exact ⟨by rw [hres.out]; rfl, by (repeat (first | exact Below.refl _ _ | (with_reducible exact Hid.out (by assumption)) | refine below_al ?_ _ | refine below_dr ?_ | refine below_tr ?_ (by assumption) | refine below_tr ?_ (Bel.out (by assumption)) | refine below_tr ?_ (Bel.out (ov_bel _ _)) | refine below_set ?_ (by simp; try omega)))⟩
end Go.Proofs.YtdfohielnfdmkaaGreat

/- Walks: helpers of the laws: Thin, over whatever land. -/
set_option linter.unusedVariables false
set_option linter.unusedSimpArgs false
namespace Go.Proofs.YtdfohielnfdmkaaGreat
open Go.RowKit
attribute [local go_sem low] cell_alloc_ite frozen_alloc_ite ov_cell ov_frozen

/-- A row of slices of clouds, of whatever lengths. -/
def CasesRaw (w : World) (A : Option Addr) (cs : List (List Clo)) : Prop :=
  ∀ i l, cs[i]? = some l → ∃ b o A' c', A = some ⟨b, o, none⟩ ∧ w.cell? ⟨b, o + i, none⟩ = some (.slice A' l.length c') ∧ l.length ≤ c' ∧ RowAt w A' 8 encClo l
theorem CasesRaw.kept {w w' : World} {A : Option Addr} {cs : List (List Clo)} (h : CasesRaw w A cs) (hk : Kept w w') : CasesRaw w' A cs := by
  intro i l hl
  obtain ⟨b, o, A', c', hA, hc, h1, hr⟩ := h i l hl
  exact ⟨b, o, A', c', hA, hk _ _ hc, h1, hr.kept hk⟩
/-- Any land as it lies in memory. -/
structure RawL (w : World) (V : LV) (L : Lnd) : Prop where
  st : RowAt w V.a0 4 encSta L.st
  ri : RowAt w V.a1 6 encWal L.ri
  ca : CasesRaw w V.a2 L.ca
  su : RowAt w V.a3 3 encSun L.su
  k0 : L.st.length ≤ V.c0
  k1 : L.ri.length ≤ V.c1
  k2 : L.ca.length ≤ V.c2
  k3 : L.su.length ≤ V.c3
/-- Whether a land is thin. -/
def thinB (L : Lnd) : Bool := ((L.ca.take 10).all fun l => decide (l.length ≤ 7)) && decide (L.st.length ≤ 9) && decide (L.ri.length ≤ 9) && decide (L.ca.length ≤ 9) && decide (L.su.length ≤ 15)
theorem RawL.thin {w : World} {V : LV} {L : Lnd} (h : RawL w V L) (ht : thinB L = true) : RdL w V L := by
  unfold thinB at ht
  simp only [Bool.and_eq_true, decide_eq_true_eq, List.all_eq_true] at ht
  obtain ⟨⟨⟨⟨t1, t2⟩, t3⟩, t4⟩, t5⟩ := ht
  refine ⟨h.st, h.ri, fun i l hl => ?_, h.su, t2, t3, t4, t5, h.k0, h.k1, h.k2, h.k3⟩
  obtain ⟨b, o, A', c', hA, hc, h1, hr⟩ := h.ca i l hl
  refine ⟨b, o, A', c', hA, hc, h1, ?_, hr⟩
  refine t1 l (List.mem_of_getElem? (i := i) ?_)
  rw [List.getElem?_take, if_pos (by have := (List.getElem?_eq_some_iff.1 hl).1; omega)]; exact hl

set_option maxRecDepth 100000 in
set_option maxHeartbeats 4000000 in
theorem thin_any (V : LV) (L : Lnd) (w : World) (hr : RawL w V L) :
    Calls Tryz.prog 14 #[vLnd V L] w fun e w' => e = .returned (.bool (thinB L)) ∧ Below w.heap.size w w' := by
  have HR := Lib.hid hr
  obtain ⟨r, hrr⟩ : ∃ r, thinB L = r := ⟨_, rfl⟩
  rw [hrr]
  have HT := Lib.hid hrr
  obtain ⟨a0, c0, a1, c1, a2, c2, a3, c3⟩ := V
  simp only [vLnd]
  clear hr hrr
  go_enter Tryz.func14, Tryz.ntmps14
  go_wp2
  generalize hA : w.alloc (.cells #[.slice a0 L.st.length c0, .slice a1 L.ri.length c1, .slice a2 L.ca.length c2, .slice a3 L.su.length c3] 27) = wA
  have hBA : Below w.heap.size w wA := by subst hA; (repeat (first | exact Below.refl _ _ | (with_reducible exact Hid.out (by assumption)) | refine below_al ?_ _ | refine below_dr ?_ | refine below_tr ?_ (by assumption) | refine below_tr ?_ (Bel.out (by assumption)) | refine below_tr ?_ (Bel.out (ov_bel _ _)) | refine below_set ?_ (by simp; try omega)))
  have x0 : wA.cell? ⟨w.heap.size, 0, none⟩ = some (.slice a0 L.st.length c0) := by subst hA; exact (by (try go_simp); (repeat (simp only [↓IntWalk.iteOmega]; (try go_simp))); (try omega))
  have x1 : wA.cell? ⟨w.heap.size, 1, none⟩ = some (.slice a1 L.ri.length c1) := by subst hA; exact (by (try go_simp); (repeat (simp only [↓IntWalk.iteOmega]; (try go_simp))); (try omega))
  have x2 : wA.cell? ⟨w.heap.size, 2, none⟩ = some (.slice a2 L.ca.length c2) := by subst hA; exact (by (try go_simp); (repeat (simp only [↓IntWalk.iteOmega]; (try go_simp))); (try omega))
  have x3 : wA.cell? ⟨w.heap.size, 3, none⟩ = some (.slice a3 L.su.length c3) := by subst hA; exact (by (try go_simp); (repeat (simp only [↓IntWalk.iteOmega]; (try go_simp))); (try omega))
  clear hA
  replace hBA := Lib.hid hBA
  go_loopw [3] (fun n wr => ∃ m : Nat, m ≤ 10 ∧ n = .int .i64 m ∧ (∀ (k : Nat) (l : List Clo), k < m → L.ca[k]? = some l → l.length ≤ 7) ∧ wr = wA) (fun n _ => 10 - (intOf n).toNat)
  case atStart => exact ⟨0, Nat.zero_le _, rfl, fun k l hk => by omega, rfl⟩
  case round =>
    obtain ⟨m, hm, rfl, hall, rfl⟩ := hrel
    by_cases hlt : m < L.ca.length
    · by_cases h10 : m < 10
      · have hx := List.getElem?_eq_getElem hlt
        obtain ⟨b, o, A', c', hA, hcell, hle, hrow⟩ := (HR.out.ca.kept (kept_of_below hBA.out)) m _ hx
        have HX := Lib.hid hx
        generalize L.ca[m] = xs at *
        simp only at hA
        subst hA
        replace hrow := Lib.hid hrow
        replace hall := Lib.hid hall
        clear hx
        by_cases h7 : 7 < xs.length
        · have hres : Hid (r = false) := Lib.hid (by
            rw [← HT.out]
            unfold thinB
            rw [show ((L.ca.take 10).all fun l => decide (l.length ≤ 7)) = false by
              rw [List.all_eq_false]
              exact ⟨xs, List.mem_of_getElem? (i := m) (by rw [List.getElem?_take, if_pos h10]; exact HX.out), by simp; omega⟩]
            rfl)
          go_wp2
          go_ret
          exact ⟨by rw [hres.out]; rfl, hBA.out⟩
        · go_wp2
          go_roundw
          case rel => exact ⟨m + 1, by omega, by go_num, fun k l hk hl => by by_cases e : k = m; subst e; rw [HX.out] at hl; cases hl; omega; exact hall.out k l (by omega) hl, by first | rfl | trivial⟩
          case measure => simp [intOf]; omega
      · have hres : Hid (r = (decide (L.st.length ≤ 9) && decide (L.ri.length ≤ 9) && decide (L.ca.length ≤ 9) && decide (L.su.length ≤ 15))) := Lib.hid (by
          rw [← HT.out]
          unfold thinB
          rw [show ((L.ca.take 10).all fun l => decide (l.length ≤ 7)) = true by
            rw [List.all_eq_true]
            intro l hl
            obtain ⟨k, hk⟩ := List.mem_iff_getElem?.1 hl
            rw [List.getElem?_take] at hk
            split at hk
            · exact decide_eq_true (hall k l (by have := (List.getElem?_eq_some_iff.1 hk).1; omega) hk)
            · cases hk]
          simp only [Bool.true_and])
        clear hall
        by_cases g1 : L.st.length ≤ 9
        · by_cases g2 : L.ri.length ≤ 9
          · by_cases g3 : L.ca.length ≤ 9
            · exfalso; omega
            · have hv : Hid (r = false) := Lib.hid (by rw [hres.out, decide_eq_false g3]; simp)
              go_wp2
              go_ret
              exact ⟨by rw [hv.out]; rfl, hBA.out⟩
          · have hv : Hid (r = false) := Lib.hid (by rw [hres.out, decide_eq_false g2]; simp)
            go_wp2
            go_ret
            exact ⟨by rw [hv.out]; rfl, hBA.out⟩
        · have hv : Hid (r = false) := Lib.hid (by rw [hres.out, decide_eq_false g1]; simp)
          go_wp2
          go_ret
          exact ⟨by rw [hv.out]; rfl, hBA.out⟩
    · have hres : Hid (r = (decide (L.st.length ≤ 9) && decide (L.ri.length ≤ 9) && decide (L.ca.length ≤ 9) && decide (L.su.length ≤ 15))) := Lib.hid (by
        rw [← HT.out]
        unfold thinB
        rw [show ((L.ca.take 10).all fun l => decide (l.length ≤ 7)) = true by
          rw [List.all_eq_true]
          intro l hl
          obtain ⟨k, hk⟩ := List.mem_iff_getElem?.1 hl
          rw [List.getElem?_take] at hk
          split at hk
          · exact decide_eq_true (hall k l (by have := (List.getElem?_eq_some_iff.1 hk).1; omega) hk)
          · cases hk]
        simp only [Bool.true_and])
      clear hall
      by_cases g1 : L.st.length ≤ 9
      · by_cases g2 : L.ri.length ≤ 9
        · by_cases g3 : L.ca.length ≤ 9
          · have hv : Hid (r = decide ((L.su.length : Int) ≤ 15)) := Lib.hid (by rw [hres.out, decide_eq_true g1, decide_eq_true g2, decide_eq_true g3]; simp only [Bool.true_and]; congr 1; apply propext; omega)
            go_wp2
            go_ret
            exact ⟨by rw [hv.out]; first | rfl | simp [g1, g2, g3], hBA.out⟩
          · have hv : Hid (r = false) := Lib.hid (by rw [hres.out, decide_eq_false g3]; simp)
            go_wp2
            go_ret
            exact ⟨by rw [hv.out]; rfl, hBA.out⟩
        · have hv : Hid (r = false) := Lib.hid (by rw [hres.out, decide_eq_false g2]; simp)
          go_wp2
          go_ret
          exact ⟨by rw [hv.out]; rfl, hBA.out⟩
      · have hv : Hid (r = false) := Lib.hid (by rw [hres.out, decide_eq_false g1]; simp)
        go_wp2
        go_ret
        exact ⟨by rw [hv.out]; rfl, hBA.out⟩
end Go.Proofs.YtdfohielnfdmkaaGreat

