/- Part KV of the proof: C4 · X8. -/
import Derived.Test.YtdfohielnfdmkaaGreatKQ
import Derived.Test.YtdfohielnfdmkaaGreatKS
set_option linter.unusedVariables false
set_option linter.unusedSimpArgs false
/- Plain laws: what the program answers is what the reference answers: Earliest, Sure, Stuck. -/
set_option linter.unusedVariables false
namespace Go.Proofs.YtdfohielnfdmkaaGreat
open Go.RowKit

theorem openE_dup (L : Lnd) (f k : Int) (ys : List Int) : openE L [f, f] ys k = openE L [f] ys k := by
  unfold openE
  simp only [List.all_cons, List.all_nil, Bool.and_true, Bool.and_self]
theorem hourOr_hv (E x : Nat) : hourOr E x = hv E x := by unfold hourOr hv; split <;> split <;> omega
theorem earl_err {L : Lnd} {f s k : Int} (h : openE L [f] [s] k ≠ 0) : earlR L f s k = ([], openE L [f] [s] k) := by unfold earlR; rw [if_pos h]
theorem earl_eq {L : Lnd} {f s k : Int} (h : openE L [f] [s] k = 0) : earlR L f s k = ((List.range L.st.length).map fun b => hv L.su.length (eT L (-1) f.toNat s.toNat k.toNat b), 0) := by
  unfold earlR
  rw [if_neg (by simpa using h)]
  simp only [hourOr_hv]
theorem sure_err {L : Lnd} {f t s : Int} (h : openE L [f, t] [s] 0 ≠ 0) : sureR L f t s = (0, 0, openE L [f, t] [s] 0) := by unfold sureR; rw [if_pos h]
theorem sure_eq {L : Lnd} {f t s : Int} (h : openE L [f, t] [s] 0 = 0) :
    ((rsureR L f.toNat t.toNat s.toNat).1 < 0 → sureR L f t s = (0, 0, 10)) ∧ (¬ (rsureR L f.toNat t.toNat s.toNat).1 < 0 → sureR L f t s = ((rsureR L f.toNat t.toNat s.toNat).1, (rsureR L f.toNat t.toNat s.toNat).2, 0)) := by
  obtain ⟨hf, hst, hti, _, hc⟩ := openE_zero h
  have hc' : 0 < L.ca.length := by omega
  obtain ⟨h1, h2, _⟩ := sureTo_at (fun k => eT L (-1) f.toNat s.toNat k t.toNat) L.ca.length hc'
  have e1 : sureR L f t s = if (L.su.length : Int) < (sureTo (fun k => eT L (-1) f.toNat s.toNat k t.toNat) L.ca.length).1 then (0, 0, 10) else ((sureTo (fun k => eT L (-1) f.toNat s.toNat k t.toNat) L.ca.length).1, ((sureTo (fun k => eT L (-1) f.toNat s.toNat k t.toNat) L.ca.length).2 : Int), 0) := by
    unfold sureR; rw [if_neg (by simpa using h)]
  have e2 : rsureR L f.toNat t.toNat s.toNat = if (L.su.length : Int) < (sureTo (fun k => eT L (-1) f.toNat s.toNat k t.toNat) L.ca.length).1 then (-1, 0) else ((sureTo (fun k => eT L (-1) f.toNat s.toNat k t.toNat) L.ca.length).1, ((sureTo (fun k => eT L (-1) f.toNat s.toNat k t.toNat) L.ca.length).2 : Int)) := rfl
  rw [e1, e2]
  by_cases hE : (L.su.length : Int) < (sureTo (fun k => eT L (-1) f.toNat s.toNat k t.toNat) L.ca.length).1
  · rw [if_pos hE, if_pos hE]
    exact ⟨fun _ => rfl, fun h => absurd (show ((-1, 0) : Int × Int).1 < 0 by decide) h⟩
  · rw [if_neg hE, if_neg hE]
    refine ⟨fun h => ?_, fun _ => rfl⟩
    simp only at h
    omega
theorem stuck_err {L : Lnd} {f t s : Int} (h : openE L [f, t] [s] 0 ≠ 0) : stuckR L f t s = ([], openE L [f, t] [s] 0) := by unfold stuckR; rw [if_pos h]
theorem stuck_eq {L : Lnd} {f t s : Int} (h : openE L [f, t] [s] 0 = 0) : stuckR L f t s = (rstuckR L (-1) f.toNat t.toNat s.toNat, 0) := by
  unfold stuckR rstuckR
  rw [if_neg (by simpa using h)]
end Go.Proofs.YtdfohielnfdmkaaGreat

/- Walks: the law RelayHours. -/
set_option linter.unusedVariables false
set_option linter.unusedSimpArgs false
namespace Go.Proofs.YtdfohielnfdmkaaGreat
open Go.RowKit
attribute [local go_sem low] cell_alloc_ite frozen_alloc_ite ov_cell ov_frozen

theorem rearlI_any (V : LV) (L : Lnd) (f s k : Int) (w : World) (hr : RdL w V L) (h : openE L [f] [s] k = 0) :
    Calls Tryz.prog 34 #[vLnd V L, .int .i64 f, .int .i64 s, .int .i64 k, .int .i64 (-1)] w fun e w' => ∃ A, e = .returned (.slice A L.st.length L.st.length) ∧ RowAt w' A 1 encInt ((List.range L.st.length).map fun b => hv L.su.length (eT L (-1) f.toNat s.toNat k.toNat b)) ∧ Below w.heap.size w w' := by
  obtain ⟨hf, hst, hti, hk0, hk1⟩ := openE_zero h
  obtain ⟨f0, f1⟩ := hst f (by simp)
  obtain ⟨s0, s1⟩ := hti s (by simp)
  obtain ⟨f', rfl⟩ := Int.eq_ofNat_of_zero_le f0
  obtain ⟨s', rfl⟩ := Int.eq_ofNat_of_zero_le s0
  obtain ⟨k', rfl⟩ := Int.eq_ofNat_of_zero_le hk0
  exact rearl_any V L f' s' k' (-1) w hr (okay_of hf) (by omega) (by omega) (by omega)
theorem rsureI_any (V : LV) (L : Lnd) (f t s : Int) (w : World) (hr : RdL w V L) (h : openE L [f, t] [s] 0 = 0) :
    Calls Tryz.prog 35 #[vLnd V L, .int .i64 f, .int .i64 t, .int .i64 s] w fun e w' => e = .returned (.tuple #[.int .i64 (rsureR L f.toNat t.toNat s.toNat).1, .int .i64 (rsureR L f.toNat t.toNat s.toNat).2]) ∧ Below w.heap.size w w' := by
  obtain ⟨hf, hst, hti, _, hc⟩ := openE_zero h
  obtain ⟨f0, f1⟩ := hst f (by simp)
  obtain ⟨t0, t1⟩ := hst t (by simp)
  obtain ⟨s0, s1⟩ := hti s (by simp)
  obtain ⟨f', rfl⟩ := Int.eq_ofNat_of_zero_le f0
  obtain ⟨t', rfl⟩ := Int.eq_ofNat_of_zero_le t0
  obtain ⟨s', rfl⟩ := Int.eq_ofNat_of_zero_le s0
  exact rsure_any V L f' t' s' w hr (okay_of hf) (by omega) (by omega) (by omega)
theorem lints2_any (A B : Option Addr) (ca cb n m : Nat) (xs ys : List Int) (w : World) (hx : RowAt w A 1 encInt xs) (hy : RowAt w B 1 encInt ys) (hn : xs.length = n) (hm : ys.length = m) (lx : n ≤ 100) (ly : m ≤ 100) :
    Calls Tryz.prog 22 #[.slice A n ca, .slice B m cb] w fun e w' => e = .returned (.bool (decide (xs = ys))) ∧ Below w.heap.size w w' := by
  subst hn hm
  exact lints_any A B ca cb xs ys w hx hy lx ly
def CutB (w0 : World) (v : Value) (wc : World) : Prop := Below w0.heap.size w0 wc

set_option maxRecDepth 100000 in
set_option maxHeartbeats 8000000 in
theorem hoursLaw_thin (V : LV) (L : Lnd) (f t s k : Int) (w : World) (hr : RdL w V L) (hth : thinB L = true) :
    Calls Tryz.prog 5 #[vLnd V L, .int .i64 f, .int .i64 t, .int .i64 s, .int .i64 k] w fun e w' => e = .returned (.bool true) ∧ Below w.heap.size w w' := by
  have hraw : RawL w V L := ⟨hr.st, hr.ri, fun i l hl => by obtain ⟨b, o, A', c', h1, h2, h3, _, h4⟩ := hr.ca i l hl; exact ⟨b, o, A', c', h1, h2, h3, h4⟩, hr.su, hr.k0, hr.k1, hr.k2, hr.k3⟩
  have HT := Lib.hid (fun W (hW : Below w.heap.size w W) => by have h := thin_any V L W ⟨hraw.st.kept (kept_of_below hW), hraw.ri.kept (kept_of_below hW), hraw.ca.kept (kept_of_below hW), hraw.su.kept (kept_of_below hW), hraw.k0, hraw.k1, hraw.k2, hraw.k3⟩; rw [hth] at h; exact h)
  have HL := Lib.hid (fun W (hW : Below w.heap.size w W) => landB_any V L w W hr hW)
  have HA := Lib.hid (fun f t s k W (hW : Below w.heap.size w W) => lasked_any V L f t s k W (hr.below hW))
  have HRE := Lib.hid (fun W (hW : Below w.heap.size w W) (h : openE L [f] [s] k = 0) => rearlI_any V L f s k W (hr.below hW) h)
  have HRU := Lib.hid (fun W (hW : Below w.heap.size w W) (h : openE L [f, t] [s] 0 = 0) => rsureI_any V L f t s W (hr.below hW) h)
  have HRS := Lib.hid (fun W (hW : Below w.heap.size w W) (h : openE L [f, t] [s] 0 = 0) => rstuckI_any V L f t s (-1) W (hr.below hW) h)
  have l0 := hr.l0
  have l2 := hr.l2
  obtain ⟨a0, c0, a1, c1, a2, c2, a3, c3⟩ := V
  simp only [vLnd] at *
  clear hr hraw hth
  go_enter Tryz.func5, Tryz.ntmps5
  go_wp2_with fail
  generalize hA : w.alloc (.cells #[.slice a0 L.st.length c0, .slice a1 L.ri.length c1, .slice a2 L.ca.length c2, .slice a3 L.su.length c3] 27) = wA
  have hBA : Below w.heap.size w wA := by subst hA; (repeat (first | exact Below.refl _ _ | (with_reducible exact Hid.out (by assumption)) | refine below_al ?_ _ | refine below_dr ?_ | refine below_tr ?_ (by assumption) | refine below_tr ?_ (Bel.out (by assumption)) | refine below_tr ?_ (Bel.out (ov_bel _ _)) | refine below_set ?_ (by simp; try omega)))
  have hbox : CellsAt wA w.heap.size [.slice a0 L.st.length c0, .slice a1 L.ri.length c1, .slice a2 L.ca.length c2, .slice a3 L.su.length c3] := by subst hA; exact cells4 (by (try go_simp); (repeat (simp only [↓IntWalk.iteOmega]; (try go_simp))); (try omega)) (by (try go_simp); (repeat (simp only [↓IntWalk.iteOmega]; (try go_simp))); (try omega)) (by (try go_simp); (repeat (simp only [↓IntWalk.iteOmega]; (try go_simp))); (try omega)) (by (try go_simp); (repeat (simp only [↓IntWalk.iteOmega]; (try go_simp))); (try omega))
  clear hA
  replace hBA := Lib.hid hBA
  replace hbox := Lib.hid hbox
  refine (HT.out _ hBA.out).mono ?_
  rintro e w1 ⟨rfl, hb1⟩
  have x0 := (kept_of_below hb1) _ _ (hbox.out 0 _ rfl)
  have x1 := (kept_of_below hb1) _ _ (hbox.out 1 _ rfl)
  have x2 := (kept_of_below hb1) _ _ (hbox.out 2 _ rfl)
  have x3 := (kept_of_below hb1) _ _ (hbox.out 3 _ rfl)
  replace hb1 := Lib.hid hb1
  go_wp2_with fail
  refine (HL.out _ (below_tr hBA.out hb1.out)).mono ?_
  rintro e w2 ⟨V1, rfl, hr1, hb2⟩
  clear x0 x1 x2 x3
  have hb2' := Lib.hid (below_tr hb1.out hb2)
  replace hr1 := Lib.hid hr1
  clear hb1 hb2
  go_wp2_with fail
  refine (earliestTop_any V1 L f s k w2 hr1.out).mono ?_
  obtain ⟨er, her⟩ : ∃ er, er = earlR L f s k := ⟨_, rfl⟩
  rw [← her]
  obtain ⟨tl, ee⟩ := er
  rintro e w3 ⟨A3, c3', rfl, hrow3, _, hb3⟩
  simp only at hrow3
  simp only
  replace her := Lib.hid her
  have hb3' := below_tr hb2'.out hb3
  replace hrow3 := Lib.hid hrow3
  clear hb3 hr1 hb2'
  have x0 := (kept_of_below hb3') _ _ (hbox.out 0 _ rfl)
  have x1 := (kept_of_below hb3') _ _ (hbox.out 1 _ rfl)
  have x2 := (kept_of_below hb3') _ _ (hbox.out 2 _ rfl)
  have x3 := (kept_of_below hb3') _ _ (hbox.out 3 _ rfl)
  replace hb3' := Lib.hid hb3'
  go_wp2_with fail
  refine (HL.out _ (below_tr hBA.out hb3'.out)).mono ?_
  rintro e w4 ⟨V2, rfl, hr2, hb4⟩
  clear x0 x1 x2 x3
  have hb4' := Lib.hid (below_tr hb3'.out hb4)
  replace hr2 := Lib.hid hr2
  go_wp2_with fail
  refine (sureTop_any V2 L f t s w4 hr2.out).mono ?_
  unfold SureTop
  obtain ⟨sr, hsr⟩ : ∃ sr, sr = sureR L f t s := ⟨_, rfl⟩
  rw [← hsr]
  obtain ⟨h1, k1, f1⟩ := sr
  simp only
  replace hsr := Lib.hid hsr
  rintro e w5 ⟨rfl, hb5⟩
  have hb5' := below_tr hb4'.out hb5
  replace hrow3 := Lib.hid (hrow3.out.kept (kept_of_below (below_tr hb4 hb5)))
  clear hb3' hb4 hb5 hr2 hb4'
  have x0 := (kept_of_below hb5') _ _ (hbox.out 0 _ rfl)
  have x1 := (kept_of_below hb5') _ _ (hbox.out 1 _ rfl)
  have x2 := (kept_of_below hb5') _ _ (hbox.out 2 _ rfl)
  have x3 := (kept_of_below hb5') _ _ (hbox.out 3 _ rfl)
  replace hb5' := Lib.hid hb5'
  go_wp2_with fail
  refine (HL.out _ (below_tr hBA.out hb5'.out)).mono ?_
  rintro e w6 ⟨V3, rfl, hr3, hb6⟩
  clear x0 x1 x2 x3
  have hb6' := Lib.hid (below_tr hb5'.out hb6)
  replace hr3 := Lib.hid hr3
  go_wp2_with fail
  refine (stuckTop_any V3 L f t s w6 hr3.out).mono ?_
  obtain ⟨kr, hkr⟩ : ∃ kr, kr = stuckR L f t s := ⟨_, rfl⟩
  rw [← hkr]
  obtain ⟨sl, ge⟩ := kr
  rintro e w7 ⟨A7, c7, rfl, hrow7, _, hb7⟩
  simp only at hrow7
  simp only
  replace hkr := Lib.hid hkr
  have hb7' := below_tr hb6'.out hb7
  replace hrow3 := Lib.hid (hrow3.out.kept (kept_of_below (below_tr hb6 hb7)))
  replace hrow7 := Lib.hid hrow7
  clear hb5' hb6 hb7 hr3 hb6'
  have x0 := (kept_of_below hb7') _ _ (hbox.out 0 _ rfl)
  have x1 := (kept_of_below hb7') _ _ (hbox.out 1 _ rfl)
  have x2 := (kept_of_below hb7') _ _ (hbox.out 2 _ rfl)
  have x3 := (kept_of_below hb7') _ _ (hbox.out 3 _ rfl)
  replace hb7' := Lib.hid hb7'
  go_wp2_with fail
  refine (HA.out _ _ _ _ _ (below_tr hBA.out hb7'.out)).mono ?_
  rw [openE_dup]
  obtain ⟨ea, hea⟩ : ∃ ea, ea = openE L [f] [s] k := ⟨_, rfl⟩
  rw [← hea]
  rw [← hea] at HRE
  rintro e w8 ⟨rfl, hb8⟩
  have hb8' := below_tr hb7'.out hb8
  replace hrow3 := Lib.hid (hrow3.out.kept (kept_of_below hb8))
  replace hrow7 := Lib.hid (hrow7.out.kept (kept_of_below hb8))
  replace hea := Lib.hid hea
  clear hb7' hb8 x0 x1 x2 x3
  have x0 := (kept_of_below hb8') _ _ (hbox.out 0 _ rfl)
  have x1 := (kept_of_below hb8') _ _ (hbox.out 1 _ rfl)
  have x2 := (kept_of_below hb8') _ _ (hbox.out 2 _ rfl)
  have x3 := (kept_of_below hb8') _ _ (hbox.out 3 _ rfl)
  replace hb8' := Lib.hid hb8'
  go_upto_if 61 with fail
  go_cut [61] from 61 to 81 (fun v61 wc => CutB w8 v61 wc)
  case first =>
    by_cases h0 : ea = 0
    · have hdec : (ea != 0) = false := by rw [h0]; rfl
      have hq : (tl, ee) = ((List.range L.st.length).map fun b => hv L.su.length (eT L (-1) f.toNat s.toNat k.toNat b), 0) := by rw [her.out, earl_eq (hea.out.symm.trans h0)]
      obtain ⟨hq1, hq2⟩ := Prod.mk.inj hq
      have hdec2 : (ee != 0) = false := by rw [hq2]; rfl
      replace hq1 := Lib.hid hq1
      have h00 := Lib.hid h0
      clear h0 hq hq2
      go_wp2_with fail
      refine (HRE.out _ (below_tr hBA.out hb8'.out) h00.out).mono ?_
      rintro e w9 ⟨A9, rfl, hrow9, hb9⟩
      rw [← hq1.out] at hrow9
      have hln : tl.length = L.st.length := by rw [hq1.out]; simp
      replace hln := Lib.hid hln
      replace hrow9 := Lib.hid hrow9
      replace hrow3 := Lib.hid (hrow3.out.kept (kept_of_below hb9))
      replace hb9 := Lib.hid hb9
      go_wp2_with fail
      refine (lints2_any A3 A9 c3' L.st.length _ _ tl tl _ hrow3.out hrow9.out rfl hln.out (by rw [hln.out]; omega) (by omega)).mono ?_
      rw [decide_eq_true rfl]
      rintro e w10 ⟨rfl, hb10⟩
      have hb10' := Lib.hid (below_tr hb9.out hb10)
      clear hb10 hb9
      go_wp2_with fail
      go_meet
      exact hb10'.out
    · have hdec : (ea != 0) = true := by simpa using h0
      have hq : (tl, ee) = ([], ea) := by rw [her.out, earl_err (by rw [← hea.out]; exact h0), ← hea.out]
      obtain ⟨hq1, hq2⟩ := Prod.mk.inj hq
      subst hq1 hq2
      clear h0 hq
      go_wp2_with fail
      go_meet
      exact Below.refl _ _
  case rest =>
    have hcb : Below w8.heap.size w8 wc := hcut
    have hb9 := below_tr hb8'.out hcb
    replace hrow7 := Lib.hid (hrow7.out.kept (kept_of_below hcb))
    clear hcut hcb hb8' x0 x1 x2 x3 hrow3 her hea HRE
    have x0 := (kept_of_below hb9) _ _ (hbox.out 0 _ rfl)
    have x1 := (kept_of_below hb9) _ _ (hbox.out 1 _ rfl)
    have x2 := (kept_of_below hb9) _ _ (hbox.out 2 _ rfl)
    have x3 := (kept_of_below hb9) _ _ (hbox.out 3 _ rfl)
    replace hb9 := Lib.hid hb9
    go_wp2_with fail
    refine (HA.out _ _ _ _ _ (below_tr hBA.out hb9.out)).mono ?_
    obtain ⟨eb, heb⟩ : ∃ eb, eb = openE L [f, t] [s] 0 := ⟨_, rfl⟩
    rw [← heb]
    rw [← heb] at HRU HRS
    rintro e w10 ⟨rfl, hb10⟩
    have hb10' := below_tr hb9.out hb10
    replace hrow7 := Lib.hid (hrow7.out.kept (kept_of_below hb10))
    replace heb := Lib.hid heb
    clear hb9 hb10 x0 x1 x2 x3
    have x0 := (kept_of_below hb10') _ _ (hbox.out 0 _ rfl)
    have x1 := (kept_of_below hb10') _ _ (hbox.out 1 _ rfl)
    have x2 := (kept_of_below hb10') _ _ (hbox.out 2 _ rfl)
    have x3 := (kept_of_below hb10') _ _ (hbox.out 3 _ rfl)
    replace hb10' := Lib.hid hb10'
    by_cases h0 : eb = 0
    · have hdec : (eb != 0) = false := by rw [h0]; rfl
      have hq := Lib.hid (sure_eq (heb.out.symm.trans h0))
      rw [← hsr.out] at hq
      have hq2 : (sl, ge) = (rstuckR L (-1) f.toNat t.toNat s.toNat, 0) := by rw [hkr.out, stuck_eq (heb.out.symm.trans h0)]
      obtain ⟨e1, rfl⟩ := Prod.mk.inj hq2
      obtain ⟨r, hr⟩ : ∃ r, r = rsureR L f.toNat t.toNat s.toNat := ⟨_, rfl⟩
      rw [← hr] at hq HRU
      rw [← e1] at HRS
      have hsl : sl.length ≤ 9 := by rw [e1]; unfold rstuckR; have := fiTo_len (fun k => decide (L.su.length < eT L (-1) f.toNat s.toNat k t.toNat)) L.ca.length; omega
      replace e1 := Lib.hid e1
      replace hr := Lib.hid hr
      have h00 := Lib.hid h0
      clear h0 hq2 hsr hkr
      obtain ⟨r1, r2⟩ := r
      simp only at hq HRU
      go_wp2_with fail
      refine (HRU.out _ (below_tr hBA.out hb10'.out) h00.out).mono ?_
      rintro e w11 ⟨rfl, hb11⟩
      have hb11' := below_tr hb10'.out hb11
      replace hrow7 := Lib.hid (hrow7.out.kept (kept_of_below hb11))
      clear hb10' hb11 x0 x1 x2 x3
      have x0 := (kept_of_below hb11') _ _ (hbox.out 0 _ rfl)
      have x1 := (kept_of_below hb11') _ _ (hbox.out 1 _ rfl)
      have x2 := (kept_of_below hb11') _ _ (hbox.out 2 _ rfl)
      have x3 := (kept_of_below hb11') _ _ (hbox.out 3 _ rfl)
      replace hb11' := Lib.hid hb11'
      go_wp2_with fail
      refine (HRS.out _ (below_tr hBA.out hb11'.out) h00.out).mono ?_
      rintro e w12 ⟨A12, c12, rfl, hrow12, _, hb12⟩
      replace hrow7 := Lib.hid (hrow7.out.kept (kept_of_below hb12))
      replace hrow12 := Lib.hid hrow12
      replace hb12 := Lib.hid hb12
      go_wp2_with fail
      refine (lints_any A7 A12 c7 c12 sl sl _ hrow7.out hrow12.out (by omega) (by omega)).mono ?_
      rw [decide_eq_true rfl]
      rintro e w13 ⟨rfl, hb13⟩
      have hB := Lib.hid (below_tr hBA.out (below_tr (below_tr hb11'.out hb12.out) hb13))
      clear hb13 hb12 hb11' x0 x1 x2 x3 HRU HRS HL HA HT
      by_cases hneg : r1 < 0
      · have hx := hq.out.1 hneg
        obtain ⟨e2, hx2⟩ := Prod.mk.inj hx
        obtain ⟨e3, e4⟩ := Prod.mk.inj hx2
        subst e2 e3 e4
        clear hx hx2 hq
        go_wp2_with fail
        refine (awake_any _).mono ?_
        rintro e w14 ⟨rfl, hb14⟩
        replace hb14 := Lib.hid hb14
        go_wp2_with fail
        go_ret
        exact ⟨rfl, below_tr hB.out hb14.out⟩
      · have hx := hq.out.2 (by omega)
        obtain ⟨e2, hx2⟩ := Prod.mk.inj hx
        obtain ⟨e3, e4⟩ := Prod.mk.inj hx2
        subst e2 e3 e4
        clear hx hx2 hq
        go_wp2_with fail
        refine (awake_any _).mono ?_
        rintro e w14 ⟨rfl, hb14⟩
        replace hb14 := Lib.hid hb14
        go_wp2_with fail
        go_ret
        exact ⟨rfl, below_tr hB.out hb14.out⟩
    · have hdec : (eb != 0) = true := by simpa using h0
      have hq : (h1, k1, f1) = (0, 0, eb) := by rw [hsr.out, sure_err (by rw [← heb.out]; exact h0), ← heb.out]
      have hq2 : (sl, ge) = ([], eb) := by rw [hkr.out, stuck_err (by rw [← heb.out]; exact h0), ← heb.out]
      obtain ⟨e1, e2⟩ := Prod.mk.inj hq
      obtain ⟨e3, e4⟩ := Prod.mk.inj e2
      obtain ⟨e5, e6⟩ := Prod.mk.inj hq2
      subst e1 e3 e5
      clear hq hq2 h0 e2
      subst e4
      subst e6
      go_wp2_with fail
      refine (awake_any _).mono ?_
      rintro e w14 ⟨rfl, hb14⟩
      replace hb14 := Lib.hid hb14
      go_wp2_with fail
      go_ret
      exact ⟨rfl, below_tr hBA.out (below_tr hb10'.out hb14.out)⟩

set_option maxRecDepth 100000 in
set_option maxHeartbeats 8000000 in
theorem hoursLaw_any (V : LV) (L : Lnd) (f t s k : Int) (w : World) (hr : RawL w V L) :
    Calls Tryz.prog 5 #[vLnd V L, .int .i64 f, .int .i64 t, .int .i64 s, .int .i64 k] w fun e w' => e = .returned (.bool true) ∧ Below w.heap.size w w' := by
  cases hth : thinB L with
  | true => exact hoursLaw_thin V L f t s k w (hr.thin hth) hth
  | false =>
    have HT := Lib.hid (fun W (hW : Below w.heap.size w W) => by have h := thin_any V L W ⟨hr.st.kept (kept_of_below hW), hr.ri.kept (kept_of_below hW), hr.ca.kept (kept_of_below hW), hr.su.kept (kept_of_below hW), hr.k0, hr.k1, hr.k2, hr.k3⟩; rw [hth] at h; exact h)
    obtain ⟨a0, c0, a1, c1, a2, c2, a3, c3⟩ := V
    simp only [vLnd] at *
    clear hr hth
    go_enter Tryz.func5, Tryz.ntmps5
    go_wp2_with (first | (go_at_call 14; refine (HT.out _ (by (repeat (first | exact Below.refl _ _ | (with_reducible exact Hid.out (by assumption)) | refine below_al ?_ _ | refine below_dr ?_ | refine below_tr ?_ (by assumption) | refine below_tr ?_ (Bel.out (by assumption)) | refine below_tr ?_ (Bel.out (ov_bel _ _)) | refine below_set ?_ (by simp; try omega))))).mono ?_; rintro e w' ⟨rfl, hb⟩; obtain ⟨hc, hf⟩ := bcell hb; have hz := hb.size; try simp at hz) | (go_at_call 15; refine (awake_any _).mono ?_; rintro e w' ⟨rfl, hb⟩; obtain ⟨hc, hf⟩ := bcell hb; have hz := hb.size; try simp at hz))
    go_ret
    exact ⟨rfl, by (repeat (first | exact Below.refl _ _ | (with_reducible exact Hid.out (by assumption)) | refine below_al ?_ _ | refine below_dr ?_ | refine below_tr ?_ (by assumption) | refine below_tr ?_ (Bel.out (by assumption)) | refine below_tr ?_ (Bel.out (ov_bel _ _)) | refine below_set ?_ (by simp; try omega)))⟩
end Go.Proofs.YtdfohielnfdmkaaGreat

