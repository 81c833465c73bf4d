/- Part KM of the proof: S7 · S8 · S9 · S10 · S11 · S12. -/
import Derived.Deep.OwnRows
import Derived.Test.YtdfohielnfdmkaaKI
import Derived.Test.YtdfohielnfdmkaaKK
import Derived.Test.YtdfohielnfdmkaaKL
set_option linter.unusedVariables false
set_option linter.unusedSimpArgs false
/- Walks: the reference of the relay: End, Asked. -/
set_option linter.unusedVariables false
set_option linter.unusedSimpArgs false
namespace Go.Proofs.Ytdfohielnfdmkaa
open Go.RowKit
attribute [local go_sem low] cell_alloc_ite frozen_alloc_ite ov_cell ov_frozen

theorem rend_any (V : LV) (L : Lnd) (w : World) (hr : L.su.length ≤ 15) : Calls Try.prog 13 #[vLnd V L] w fun e w' => e = .returned (.int .i64 L.su.length) ∧ Below w.heap.size w w' := by
  obtain ⟨a0, c0, a1, c1, a2, c2, a3, c3⟩ := V
  simp only [vLnd]
  go_enter Try.func13, Try.ntmps13
  go_wp2
  go_ret
  exact ⟨rfl, by (repeat (first | exact Below.refl _ _ | (with_reducible exact Hid.out (by assumption)) | refine below_al ?_ _ | refine below_dr ?_ | refine below_tr ?_ (by assumption) | refine below_tr ?_ (Bel.out (by assumption)) | refine below_tr ?_ (Bel.out (ov_bel _ _)) | refine below_set ?_ (by simp; try omega)))⟩

end Go.Proofs.Ytdfohielnfdmkaa

/- Walks: the reference of the relay: the earliest hours, hour by hour. -/
set_option linter.unusedVariables false
set_option linter.unusedSimpArgs false
namespace Go.Proofs.Ytdfohielnfdmkaa
open Go.RowKit
attribute [local go_sem low] cell_alloc_ite frozen_alloc_ite ov_cell ov_frozen

/-- An hour as the reference writes it: -1 for none. -/
def hv (E x : Nat) : Int := if x ≤ E then x else -1
/-- A row of ints of one's own. -/
structure RowI (w : World) (g n : Nat) (f : Nat → Int) : Prop where
  c : ∀ j, j < n → w.cell? ⟨g, j, none⟩ = some (.int .i64 (f j))
  fz : ∀ j, j < n → w.frozen? ⟨g, j, none⟩ = false
theorem RowI.below {w w' : World} {g n : Nat} {f : Nat → Int} (h : RowI w g n f) (hb : Below w.heap.size w w') : RowI w' g n f :=
  ⟨fun j hj => kept_of_below hb _ _ (h.c j hj), fun j hj => (hb.frozen (p := ⟨g, j, none⟩) (cell_lt (h.c j hj))).trans (h.fz j hj)⟩
theorem RowI.set {w : World} {g n : Nat} {f : Nat → Int} (h : RowI w g n f) (i : Nat) (v : Int) : RowI (w.setCell ⟨g, i, none⟩ (.int .i64 v)) g n (fun x => if x = i then v else f x) := by
  refine ⟨fun j hj => ?_, fun j hj => by rw [World.frozen?_setCell]; exact h.fz j hj⟩
  by_cases e : j = i
  · subst e; simp only [if_true]; exact cell_set (h.c j hj) _
  · simp only [e, if_false]; exact (World.cell?_setCell_other _ _ _ _ (by intro e'; cases e'; exact e rfl)).trans (h.c j hj)
theorem RowI.congr {w : World} {g n : Nat} {f f' : Nat → Int} (h : RowI w g n f) (e : ∀ j, j < n → f j = f' j) : RowI w g n f' := ⟨fun j hj => by rw [← e j hj]; exact h.c j hj, h.fz⟩
theorem RowI.row {w : World} {g n : Nat} {f : Nat → Int} (h : RowI w g n f) : RowAt w (some ⟨g, 0, none⟩) 1 encInt ((List.range n).map f) := by
  intro i x hx
  rw [List.getElem?_map] at hx
  cases hr : (List.range n)[i]? with
  | none => rw [hr] at hx; cases hx
  | some i' =>
    rw [hr] at hx
    obtain ⟨hl, he⟩ := List.getElem?_eq_some_iff.1 hr
    simp at he hl
    subst he
    simp at hx
    subst hx
    refine ⟨g, 0, rfl, fun j v hv => ?_⟩
    match j, hv with
    | 0, hv => cases hv; simpa using h.c i hl
theorem made_row (w : World) (n : Nat) (t : TypeId) : RowI (w.alloc (.cells (madeCells #[.int .i64 0] n) t)) w.heap.size n (fun _ => 0) := by
  refine ⟨fun j hj => ?_, fun j hj => World.frozen?_alloc_at (w := w) _ _ _ _ rfl⟩
  rw [World.cell?_alloc_at (w := w) _ _ _ _ rfl]
  simp [madeCells, hj, Nat.mod_one]

/-- The world of the reference's 'Earliest'. -/
structure ErW (w : World) (cs : List Value) (n E : Nat) (T : Nat → Nat) (wr : World) : Prop where
  row : RowI wr (w.heap.size + 1) n (fun x => hv E (T x))
  bel : Below w.heap.size w wr
  box : CellsAt wr w.heap.size cs
theorem ErW.below {w : World} {cs : List Value} {n E : Nat} {T : Nat → Nat} {wr wr' : World} (h : ErW w cs n E T wr) (hb : Below wr.heap.size wr wr') : ErW w cs n E T wr' := ⟨h.row.below hb, below_tr h.bel hb, h.box.kept (kept_of_below hb)⟩
theorem ErW.set {w : World} {cs : List Value} {n E : Nat} {T : Nat → Nat} {wr : World} (h : ErW w cs n E T wr) (B v : Nat) (hv' : v ≤ E) : ErW w cs n E (fun x => if x = B then v else T x) (wr.setCell ⟨w.heap.size + 1, B, none⟩ (.int .i64 v)) :=
  ⟨(h.row.set B v).congr (fun x hx => by by_cases e : x = B; simp [e, hv, hv']; simp [e]), h.bel.setCell (by simp) _, fun i v hv => (World.cell?_setCell_other _ _ _ _ (by intro e; have := congrArg Addr.block e; simp at this)).trans (h.box i v hv)⟩
/-- What the reference's 'Earliest' gives. -/
def REarl (L : Lnd) (out : Int) (src start k : Nat) (w : World) (e : Ending) (w' : World) : Prop :=
  ∃ A, e = .returned (.slice A L.st.length L.st.length) ∧ RowAt w' A 1 encInt ((List.range L.st.length).map fun b => hv L.su.length (eT L out src start k b)) ∧ Below w.heap.size w w'

end Go.Proofs.Ytdfohielnfdmkaa

/- Walks: the reference of the relay: Sure, Stuck, Latest. -/
set_option linter.unusedVariables false
set_option linter.unusedSimpArgs false
namespace Go.Proofs.Ytdfohielnfdmkaa
open Go.RowKit
attribute [local go_sem low] cell_alloc_ite frozen_alloc_ite ov_cell ov_frozen

/-- The sure hour and its first case, as the reference writes them. -/
noncomputable def rsureR (L : Lnd) (src dst start : Nat) : Int × Int :=
  if (L.su.length : Int) < (sureTo (fun k => eT L (-1) src start k dst) L.ca.length).1 then (-1, 0)
  else ((sureTo (fun k => eT L (-1) src start k dst) L.ca.length).1, (sureTo (fun k => eT L (-1) src start k dst) L.ca.length).2)

/-- The last of the starts before m at which the dispatch comes by an hour. -/
def rlatTo (q : Nat → Int) (by_ : Int) : Nat → Int
  | 0 => -1
  | s + 1 => if 0 ≤ q s ∧ q s ≤ by_ then (s : Int) else rlatTo q by_ s
/-- The latest start, as the reference writes it. -/
noncomputable def rlatR (L : Lnd) (src dst : Nat) (by_ : Int) : Int := rlatTo (fun s => (rsureR L src dst s).1) by_ (L.su.length + 1)

end Go.Proofs.Ytdfohielnfdmkaa

/- Walks: the reference of the relay: Stuck. -/
set_option linter.unusedVariables false
set_option linter.unusedSimpArgs false
namespace Go.Proofs.Ytdfohielnfdmkaa
open Go.RowKit
attribute [local go_sem low] cell_alloc_ite frozen_alloc_ite ov_cell ov_frozen

/-- The cases in which a dispatch does not come through, one station left out. -/
noncomputable def rstuckR (L : Lnd) (out : Int) (src dst start : Nat) : List Int := fiTo (fun k => decide (L.su.length < eT L out src start k dst)) L.ca.length
end Go.Proofs.Ytdfohielnfdmkaa

/- Walks: helpers of the laws: asked, wall, ints. -/
set_option linter.unusedVariables false
set_option linter.unusedSimpArgs false
namespace Go.Proofs.Ytdfohielnfdmkaa
open Go.RowKit
attribute [local go_sem low] cell_alloc_ite frozen_alloc_ite ov_cell ov_frozen

theorem lwall_any (x1 y1 x2 y2 b t : Int) (w : World) : Calls Try.prog 29 #[vWal ⟨x1, y1, x2, y2, b, t⟩] w fun e w' => e = .returned (vWal ⟨x1, y1, x2, y2, b, t⟩) ∧ Below w.heap.size w w' := by
  simp only [vWal]
  go_enter Try.func29, Try.ntmps29
  go_wp2
  refine bodyPost_ret (v := .agg #[.int .i64 x1, .int .i64 y1, .int .i64 x2, .int .i64 y2, .int .i64 b, .int .i64 t]) (by simp [results, Try.results29, go_sem]) rfl ?_
  exact ⟨rfl, by (repeat (first | exact Below.refl _ _ | (with_reducible exact Hid.out (by assumption)) | refine below_al ?_ _ | refine below_dr ?_ | refine below_tr ?_ (by assumption) | refine below_tr ?_ (Bel.out (by assumption)) | refine below_tr ?_ (Bel.out (ov_bel _ _)) | refine below_set ?_ (by simp; try omega)))⟩

set_option maxHeartbeats 4000000 in
theorem lints_any (A B : Option Addr) (ca cb : Nat) (xs ys : List Int) (w : World) (hx : RowAt w A 1 encInt xs) (hy : RowAt w B 1 encInt ys) (lx : xs.length ≤ 100) (ly : ys.length ≤ 100) :
    Calls Try.prog 22 #[.slice A xs.length ca, .slice B ys.length cb] w fun e w' => e = .returned (.bool (decide (xs = ys))) ∧ Below w.heap.size w w' := by
  have HX := Lib.hid hx
  have HY := Lib.hid hy
  obtain ⟨r, hr⟩ : ∃ r, decide (xs = ys) = r := ⟨_, rfl⟩
  rw [hr]
  have HR := Lib.hid hr
  clear hx hy hr
  by_cases hl : xs.length = ys.length
  · have hld : ((xs.length : Int) != ys.length) = false := by rw [hl]; simp
    rw [hl]
    go_enter Try.func22, Try.ntmps22
    go_wp2
    go_loopw [5] (fun n wr => ∃ j : Nat, j ≤ ys.length ∧ n = .int .i64 j ∧ (∀ i, i < j → xs[i]? = ys[i]?) ∧ Below w.heap.size w wr) (fun n _ => ys.length - (intOf n).toNat)
    case atStart => exact ⟨0, Nat.zero_le _, rfl, fun i hi => by omega, Below.refl _ _⟩
    case round =>
      obtain ⟨j, hj, rfl, hall, hb⟩ := hrel
      by_cases hlt : j < ys.length
      · have hx := List.getElem?_eq_getElem (show j < xs.length by omega)
        have hy := List.getElem?_eq_getElem hlt
        obtain ⟨b, o, hA, e0⟩ := (HX.out.kept (kept_of_below hb)).num hx
        obtain ⟨b2, o2, hB, f0⟩ := (HY.out.kept (kept_of_below hb)).num hy
        have HXx := Lib.hid hx
        have HYy := Lib.hid hy
        generalize xs[j] = x at *
        generalize ys[j] = y at *
        subst hA hB
        have hl1 := cell_lt e0
        have hl2 := cell_lt f0
        simp only at hl1 hl2
        replace hall := Lib.hid hall
        replace hb := Lib.hid hb
        clear hx hy
        by_cases hxy : x = y
        · have hc : (x != y) = false := by rw [hxy]; simp
          replace hxy := Lib.hid hxy
          go_wp2
          (refine wp_region_ov (by kernel_rfl) (by kernel_rfl) (fun R hR => ?_); (repeat (go_big_quiet_step (fail))); refine wpQuiet_nil ?_; refine hR.out _ ?_; clear hR R; intro W hW; have hc := hW.cells; have hf := hW.frozens; have hz := hW.size; (try simp at hz))
          have hb2 := Lib.hid (below_tr hb.out hW.out)
          clear hc hW
          go_wp2
          go_roundw
          case rel => exact ⟨j + 1, by omega, by go_num, fun i hi => by by_cases e : i = j; subst e; rw [HXx.out, HYy.out, hxy.out]; exact hall.out i (by omega), hb2.out⟩
          case measure => simp [intOf]; omega
        · have hc : (x != y) = true := by simpa using hxy
          have hres : Hid (r = false) := Lib.hid (by rw [← HR.out]; exact decide_eq_false (fun h => by have := HXx.out; rw [h, HYy.out] at this; cases this; exact hxy rfl))
          replace hxy := Lib.hid hxy
          go_wp2
          (refine wp_region_ov (by kernel_rfl) (by kernel_rfl) (fun R hR => ?_); (repeat (go_big_quiet_step (fail))); refine wpQuiet_nil ?_; refine hR.out _ ?_; clear hR R; intro W hW; have hc := hW.cells; have hf := hW.frozens; have hz := hW.size; (try simp at hz))
          have hb2 := Lib.hid (below_tr hb.out hW.out)
          go_wp2
          go_ret
          exact ⟨by rw [hres.out]; rfl, hb2.out⟩
      · obtain rfl : j = ys.length := by omega
        have hres : Hid (r = true) := Lib.hid (by
          rw [← HR.out]
          refine decide_eq_true (List.ext_getElem? fun i => ?_)
          by_cases hi : i < ys.length
          · exact hall i hi
          · rw [List.getElem?_eq_none (by omega), List.getElem?_eq_none (by omega)])
        replace hb := Lib.hid hb
        clear hall
        go_wp2
        go_ret
        exact ⟨by rw [hres.out]; rfl, hb.out⟩
  · have hld : ((xs.length : Int) != ys.length) = true := by simpa using (by omega : ¬ (xs.length : Int) = ys.length)
    have hres : Hid (r = false) := Lib.hid (by rw [← HR.out]; exact decide_eq_false (fun h => hl (by rw [h])))
    go_enter Try.func22, Try.ntmps22
    go_wp2
    go_ret
    exact ⟨by rw [hres.out]; rfl, by (repeat (first | exact Below.refl _ _ | (with_reducible exact Hid.out (by assumption)) | refine below_al ?_ _ | refine below_dr ?_ | refine below_tr ?_ (by assumption) | refine below_tr ?_ (Bel.out (by assumption)) | refine below_tr ?_ (Bel.out (ov_bel _ _)) | refine below_set ?_ (by simp; try omega)))⟩
end Go.Proofs.Ytdfohielnfdmkaa

/- Walks: helpers of the laws: Thin, over whatever land. -/
set_option linter.unusedVariables false
set_option linter.unusedSimpArgs false
namespace Go.Proofs.Ytdfohielnfdmkaa
open Go.RowKit
attribute [local go_sem low] cell_alloc_ite frozen_alloc_ite ov_cell ov_frozen

/-- A row of slices of clouds, of whatever lengths. -/
def CasesRaw (w : World) (A : Option Addr) (cs : List (List Clo)) : Prop :=
  ∀ i l, cs[i]? = some l → ∃ b o A' c', A = some ⟨b, o, none⟩ ∧ w.cell? ⟨b, o + i, none⟩ = some (.slice A' l.length c') ∧ l.length ≤ c' ∧ RowAt w A' 8 encClo l
theorem CasesRaw.kept {w w' : World} {A : Option Addr} {cs : List (List Clo)} (h : CasesRaw w A cs) (hk : Kept w w') : CasesRaw w' A cs := by
  intro i l hl
  obtain ⟨b, o, A', c', hA, hc, h1, hr⟩ := h i l hl
  exact ⟨b, o, A', c', hA, hk _ _ hc, h1, hr.kept hk⟩
/-- Any land as it lies in memory. -/
structure RawL (w : World) (V : LV) (L : Lnd) : Prop where
  st : RowAt w V.a0 4 encSta L.st
  ri : RowAt w V.a1 6 encWal L.ri
  ca : CasesRaw w V.a2 L.ca
  su : RowAt w V.a3 3 encSun L.su
  k0 : L.st.length ≤ V.c0
  k1 : L.ri.length ≤ V.c1
  k2 : L.ca.length ≤ V.c2
  k3 : L.su.length ≤ V.c3
/-- Whether a land is thin. -/
def thinB (L : Lnd) : Bool := ((L.ca.take 10).all fun l => decide (l.length ≤ 7)) && decide (L.st.length ≤ 9) && decide (L.ri.length ≤ 9) && decide (L.ca.length ≤ 9) && decide (L.su.length ≤ 15)
theorem RawL.thin {w : World} {V : LV} {L : Lnd} (h : RawL w V L) (ht : thinB L = true) : RdL w V L := by
  unfold thinB at ht
  simp only [Bool.and_eq_true, decide_eq_true_eq, List.all_eq_true] at ht
  obtain ⟨⟨⟨⟨t1, t2⟩, t3⟩, t4⟩, t5⟩ := ht
  refine ⟨h.st, h.ri, fun i l hl => ?_, h.su, t2, t3, t4, t5, h.k0, h.k1, h.k2, h.k3⟩
  obtain ⟨b, o, A', c', hA, hc, h1, hr⟩ := h.ca i l hl
  refine ⟨b, o, A', c', hA, hc, h1, ?_, hr⟩
  refine t1 l (List.mem_of_getElem? (i := i) ?_)
  rw [List.getElem?_take, if_pos (by have := (List.getElem?_eq_some_iff.1 hl).1; omega)]; exact hl

set_option maxRecDepth 100000 in
set_option maxHeartbeats 4000000 in
theorem thin_any (V : LV) (L : Lnd) (w : World) (hr : RawL w V L) :
    Calls Try.prog 25 #[vLnd V L] w fun e w' => e = .returned (.bool (thinB L)) ∧ Below w.heap.size w w' := by
  have HR := Lib.hid hr
  obtain ⟨r, hrr⟩ : ∃ r, thinB L = r := ⟨_, rfl⟩
  rw [hrr]
  have HT := Lib.hid hrr
  obtain ⟨a0, c0, a1, c1, a2, c2, a3, c3⟩ := V
  simp only [vLnd]
  clear hr hrr
  go_enter Try.func25, Try.ntmps25
  go_wp2
  generalize hA : w.alloc (.cells #[.slice a0 L.st.length c0, .slice a1 L.ri.length c1, .slice a2 L.ca.length c2, .slice a3 L.su.length c3] 27) = wA
  have hBA : Below w.heap.size w wA := by subst hA; (repeat (first | exact Below.refl _ _ | (with_reducible exact Hid.out (by assumption)) | refine below_al ?_ _ | refine below_dr ?_ | refine below_tr ?_ (by assumption) | refine below_tr ?_ (Bel.out (by assumption)) | refine below_tr ?_ (Bel.out (ov_bel _ _)) | refine below_set ?_ (by simp; try omega)))
  have x0 : wA.cell? ⟨w.heap.size, 0, none⟩ = some (.slice a0 L.st.length c0) := by subst hA; exact (by (try go_simp); (repeat (simp only [↓IntWalk.iteOmega]; (try go_simp))); (try omega))
  have x1 : wA.cell? ⟨w.heap.size, 1, none⟩ = some (.slice a1 L.ri.length c1) := by subst hA; exact (by (try go_simp); (repeat (simp only [↓IntWalk.iteOmega]; (try go_simp))); (try omega))
  have x2 : wA.cell? ⟨w.heap.size, 2, none⟩ = some (.slice a2 L.ca.length c2) := by subst hA; exact (by (try go_simp); (repeat (simp only [↓IntWalk.iteOmega]; (try go_simp))); (try omega))
  have x3 : wA.cell? ⟨w.heap.size, 3, none⟩ = some (.slice a3 L.su.length c3) := by subst hA; exact (by (try go_simp); (repeat (simp only [↓IntWalk.iteOmega]; (try go_simp))); (try omega))
  clear hA
  replace hBA := Lib.hid hBA
  go_loopw [3] (fun n wr => ∃ m : Nat, m ≤ 10 ∧ n = .int .i64 m ∧ (∀ (k : Nat) (l : List Clo), k < m → L.ca[k]? = some l → l.length ≤ 7) ∧ wr = wA) (fun n _ => 10 - (intOf n).toNat)
  case atStart => exact ⟨0, Nat.zero_le _, rfl, fun k l hk => by omega, rfl⟩
  case round =>
    obtain ⟨m, hm, rfl, hall, rfl⟩ := hrel
    by_cases hlt : m < L.ca.length
    · by_cases h10 : m < 10
      · have hx := List.getElem?_eq_getElem hlt
        obtain ⟨b, o, A', c', hA, hcell, hle, hrow⟩ := (HR.out.ca.kept (kept_of_below hBA.out)) m _ hx
        have HX := Lib.hid hx
        generalize L.ca[m] = xs at *
        simp only at hA
        subst hA
        replace hrow := Lib.hid hrow
        replace hall := Lib.hid hall
        clear hx
        by_cases h7 : 7 < xs.length
        · have hres : Hid (r = false) := Lib.hid (by
            rw [← HT.out]
            unfold thinB
            rw [show ((L.ca.take 10).all fun l => decide (l.length ≤ 7)) = false by
              rw [List.all_eq_false]
              exact ⟨xs, List.mem_of_getElem? (i := m) (by rw [List.getElem?_take, if_pos h10]; exact HX.out), by simp; omega⟩]
            rfl)
          go_wp2
          go_ret
          exact ⟨by rw [hres.out]; rfl, hBA.out⟩
        · go_wp2
          go_roundw
          case rel => exact ⟨m + 1, by omega, by go_num, fun k l hk hl => by by_cases e : k = m; subst e; rw [HX.out] at hl; cases hl; omega; exact hall.out k l (by omega) hl, by first | rfl | trivial⟩
          case measure => simp [intOf]; omega
      · have hres : Hid (r = (decide (L.st.length ≤ 9) && decide (L.ri.length ≤ 9) && decide (L.ca.length ≤ 9) && decide (L.su.length ≤ 15))) := Lib.hid (by
          rw [← HT.out]
          unfold thinB
          rw [show ((L.ca.take 10).all fun l => decide (l.length ≤ 7)) = true by
            rw [List.all_eq_true]
            intro l hl
            obtain ⟨k, hk⟩ := List.mem_iff_getElem?.1 hl
            rw [List.getElem?_take] at hk
            split at hk
            · exact decide_eq_true (hall k l (by have := (List.getElem?_eq_some_iff.1 hk).1; omega) hk)
            · cases hk]
          simp only [Bool.true_and])
        clear hall
        by_cases g1 : L.st.length ≤ 9
        · by_cases g2 : L.ri.length ≤ 9
          · by_cases g3 : L.ca.length ≤ 9
            · exfalso; omega
            · have hv : Hid (r = false) := Lib.hid (by rw [hres.out, decide_eq_false g3]; simp)
              go_wp2
              go_ret
              exact ⟨by rw [hv.out]; rfl, hBA.out⟩
          · have hv : Hid (r = false) := Lib.hid (by rw [hres.out, decide_eq_false g2]; simp)
            go_wp2
            go_ret
            exact ⟨by rw [hv.out]; rfl, hBA.out⟩
        · have hv : Hid (r = false) := Lib.hid (by rw [hres.out, decide_eq_false g1]; simp)
          go_wp2
          go_ret
          exact ⟨by rw [hv.out]; rfl, hBA.out⟩
    · have hres : Hid (r = (decide (L.st.length ≤ 9) && decide (L.ri.length ≤ 9) && decide (L.ca.length ≤ 9) && decide (L.su.length ≤ 15))) := Lib.hid (by
        rw [← HT.out]
        unfold thinB
        rw [show ((L.ca.take 10).all fun l => decide (l.length ≤ 7)) = true by
          rw [List.all_eq_true]
          intro l hl
          obtain ⟨k, hk⟩ := List.mem_iff_getElem?.1 hl
          rw [List.getElem?_take] at hk
          split at hk
          · exact decide_eq_true (hall k l (by have := (List.getElem?_eq_some_iff.1 hk).1; omega) hk)
          · cases hk]
        simp only [Bool.true_and])
      clear hall
      by_cases g1 : L.st.length ≤ 9
      · by_cases g2 : L.ri.length ≤ 9
        · by_cases g3 : L.ca.length ≤ 9
          · have hv : Hid (r = decide ((L.su.length : Int) ≤ 15)) := Lib.hid (by rw [hres.out, decide_eq_true g1, decide_eq_true g2, decide_eq_true g3]; simp only [Bool.true_and]; congr 1; apply propext; omega)
            go_wp2
            go_ret
            exact ⟨by rw [hv.out]; first | rfl | simp [g1, g2, g3], hBA.out⟩
          · have hv : Hid (r = false) := Lib.hid (by rw [hres.out, decide_eq_false g3]; simp)
            go_wp2
            go_ret
            exact ⟨by rw [hv.out]; rfl, hBA.out⟩
        · have hv : Hid (r = false) := Lib.hid (by rw [hres.out, decide_eq_false g2]; simp)
          go_wp2
          go_ret
          exact ⟨by rw [hv.out]; rfl, hBA.out⟩
      · have hv : Hid (r = false) := Lib.hid (by rw [hres.out, decide_eq_false g1]; simp)
        go_wp2
        go_ret
        exact ⟨by rw [hv.out]; rfl, hBA.out⟩
end Go.Proofs.Ytdfohielnfdmkaa

