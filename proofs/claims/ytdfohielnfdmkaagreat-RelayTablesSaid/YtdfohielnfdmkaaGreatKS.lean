/- Part KS of the proof: X7. -/
import Derived.Test.YtdfohielnfdmkaaGreatKM
import Derived.Test.YtdfohielnfdmkaaGreatKQ
import Derived.Test.YtdfohielnfdmkaaGreatKP
set_option linter.unusedVariables false
set_option linter.unusedSimpArgs false
/- Walks: the law RelayLatest, over a land that is thin. -/
set_option linter.unusedVariables false
set_option linter.unusedSimpArgs false
namespace Go.Proofs.YtdfohielnfdmkaaGreat
open Go.RowKit
attribute [local go_sem low] cell_alloc_ite frozen_alloc_ite ov_cell ov_frozen

theorem rlatI_any (V : LV) (L : Lnd) (f t b : Int) (w : World) (hr : RdL w V L) (h : openE L [f, t] [b] 0 = 0) :
    Calls Tryz.prog 20 #[vLnd V L, .int .i64 f, .int .i64 t, .int .i64 b] w fun e w' => e = .returned (.int .i64 (rlatR L f.toNat t.toNat b)) ∧ Below w.heap.size w w' := by
  obtain ⟨hf, hst, hti, _, hc⟩ := openE_zero h
  obtain ⟨f0, f1⟩ := hst f (by simp)
  obtain ⟨t0, t1⟩ := hst t (by simp)
  obtain ⟨f', rfl⟩ := Int.eq_ofNat_of_zero_le f0
  obtain ⟨t', rfl⟩ := Int.eq_ofNat_of_zero_le t0
  exact rlat_any V L f' t' b w hr (okay_of hf) (by omega) (by omega)
/-- A row of ints is handed back. -/
def RowTop (r : List Int) (w : World) (e : Ending) (w' : World) : Prop := ∃ A c, e = .returned (.slice A r.length c) ∧ RowAt w' A 1 encInt r ∧ r.length ≤ c ∧ Below w.heap.size w w'
theorem rstuckI_any (V : LV) (L : Lnd) (f t s out : Int) (w : World) (hr : RdL w V L) (h : openE L [f, t] [s] 0 = 0) :
    Calls Tryz.prog 21 #[vLnd V L, .int .i64 f, .int .i64 t, .int .i64 s, .int .i64 out] w (RowTop (rstuckR L out f.toNat t.toNat s.toNat) w) := by
  obtain ⟨hf, hst, hti, _, hc⟩ := openE_zero h
  obtain ⟨f0, f1⟩ := hst f (by simp)
  obtain ⟨t0, t1⟩ := hst t (by simp)
  obtain ⟨s0, s1⟩ := hti s (by simp)
  obtain ⟨f', rfl⟩ := Int.eq_ofNat_of_zero_le f0
  obtain ⟨t', rfl⟩ := Int.eq_ofNat_of_zero_le t0
  obtain ⟨s', rfl⟩ := Int.eq_ofNat_of_zero_le s0
  exact rstuck_any V L f' t' s' out w hr (okay_of hf) (by omega) (by omega) (by omega)
/-- A land once more, for the program. -/
theorem landB_any (V : LV) (L : Lnd) (w W : World) (hr : RdL w V L) (hW : Below w.heap.size w W) : Calls Tryz.prog 17 #[vLnd V L] W (LandMade L W) := land_any V L W (hr.below hW)

def LatRel (w0 : World) (p1 p2 : Int) (v15 v17 : Value) (wc : World) : Prop := v15 = .int .i64 p2 ∧ v17 = .int .i64 p1 ∧ Below w0.heap.size w0 wc
def DueRel (w0 : World) (d : Int) (l : List Int) (v16 v18 : Value) (wc : World) : Prop := v16 = .int .i64 d ∧ (∃ A c, v18 = .slice A l.length c ∧ RowAt wc A 1 encInt l) ∧ Below w0.heap.size w0 wc
def LvI (w0 : World) (q : Nat → Bool) (n : Nat) (i v : Value) (wr : World) : Prop := ∃ j : Nat, j ≤ n ∧ i = .int .i64 j ∧ wr.ownsRow w0.heap.size 3 1 v (fiTo q j).length ((fiTo q j).map (Value.int .i64)) ∧ Below w0.heap.size w0 wr

set_option maxRecDepth 100000 in
set_option maxHeartbeats 8000000 in
theorem latestLaw_thin (V : LV) (L : Lnd) (f t s b : Int) (w : World) (hr : RdL w V L) (hth : thinB L = true) :
    Calls Tryz.prog 3 #[vLnd V L, .int .i64 f, .int .i64 t, .int .i64 s, .int .i64 b] w fun e w' => e = .returned (.bool true) ∧ Below w.heap.size w w' := by
  have hraw : RawL w V L := ⟨hr.st, hr.ri, fun i l hl => by obtain ⟨b, o, A', c', h1, h2, h3, _, h4⟩ := hr.ca i l hl; exact ⟨b, o, A', c', h1, h2, h3, h4⟩, hr.su, hr.k0, hr.k1, hr.k2, hr.k3⟩
  have HT := Lib.hid (fun W (hW : Below w.heap.size w W) => by have h := thin_any V L W ⟨hraw.st.kept (kept_of_below hW), hraw.ri.kept (kept_of_below hW), hraw.ca.kept (kept_of_below hW), hraw.su.kept (kept_of_below hW), hraw.k0, hraw.k1, hraw.k2, hraw.k3⟩; rw [hth] at h; exact h)
  have HL := Lib.hid (fun W (hW : Below w.heap.size w W) => landB_any V L w W hr hW)
  have HA := Lib.hid (fun f t s k W (hW : Below w.heap.size w W) => lasked_any V L f t s k W (hr.below hW))
  have HRL := Lib.hid (fun W (hW : Below w.heap.size w W) (h : openE L [f, t] [b] 0 = 0) => rlatI_any V L f t b W (hr.below hW) h)
  have HRS := Lib.hid (fun out W (hW : Below w.heap.size w W) (h : openE L [f, t] [s] 0 = 0) => rstuckI_any V L f t s out W (hr.below hW) h)
  have l0 := hr.l0
  obtain ⟨a0, c0, a1, c1, a2, c2, a3, c3⟩ := V
  simp only [vLnd] at *
  obtain ⟨i0, hi0, hz0, hz1, hz2⟩ := info_parts info_int
  clear hr hraw hth
  go_enter Tryz.func3, Tryz.ntmps3
  go_wp2_with fail
  generalize hA : w.alloc (.cells #[.slice a0 L.st.length c0, .slice a1 L.ri.length c1, .slice a2 L.ca.length c2, .slice a3 L.su.length c3] 27) = wA
  have hBA : Below w.heap.size w wA := by subst hA; (repeat (first | exact Below.refl _ _ | (with_reducible exact Hid.out (by assumption)) | refine below_al ?_ _ | refine below_dr ?_ | refine below_tr ?_ (by assumption) | refine below_tr ?_ (Bel.out (by assumption)) | refine below_tr ?_ (Bel.out (ov_bel _ _)) | refine below_set ?_ (by simp; try omega)))
  have hbox : CellsAt wA w.heap.size [.slice a0 L.st.length c0, .slice a1 L.ri.length c1, .slice a2 L.ca.length c2, .slice a3 L.su.length c3] := by subst hA; exact cells4 (by (try go_simp); (repeat (simp only [↓IntWalk.iteOmega]; (try go_simp))); (try omega)) (by (try go_simp); (repeat (simp only [↓IntWalk.iteOmega]; (try go_simp))); (try omega)) (by (try go_simp); (repeat (simp only [↓IntWalk.iteOmega]; (try go_simp))); (try omega)) (by (try go_simp); (repeat (simp only [↓IntWalk.iteOmega]; (try go_simp))); (try omega))
  clear hA
  replace hBA := Lib.hid hBA
  replace hbox := Lib.hid hbox
  refine (HT.out _ hBA.out).mono ?_
  rintro e w1 ⟨rfl, hb1⟩
  have x0 := (kept_of_below hb1) _ _ (hbox.out 0 _ rfl)
  have x1 := (kept_of_below hb1) _ _ (hbox.out 1 _ rfl)
  have x2 := (kept_of_below hb1) _ _ (hbox.out 2 _ rfl)
  have x3 := (kept_of_below hb1) _ _ (hbox.out 3 _ rfl)
  replace hb1 := Lib.hid hb1
  go_wp2_with fail
  refine (HL.out _ (below_tr hBA.out hb1.out)).mono ?_
  rintro e w2 ⟨V1, rfl, hr1, hb2⟩
  clear x0 x1 x2 x3
  have hb2' := Lib.hid (below_tr hb1.out hb2)
  replace hr1 := Lib.hid hr1
  clear hb1 hb2
  go_wp2_with fail
  refine (latestTop_any V1 L f t b w2 hr1.out).mono ?_
  rintro e w3 ⟨rfl, hb3⟩
  have hb3' := below_tr hb2'.out hb3
  clear hb3 hr1 hb2'
  have x0 := (kept_of_below hb3') _ _ (hbox.out 0 _ rfl)
  have x1 := (kept_of_below hb3') _ _ (hbox.out 1 _ rfl)
  have x2 := (kept_of_below hb3') _ _ (hbox.out 2 _ rfl)
  have x3 := (kept_of_below hb3') _ _ (hbox.out 3 _ rfl)
  replace hb3' := Lib.hid hb3'
  obtain ⟨p, hp⟩ : ∃ p, p = latestR L f t b := ⟨_, rfl⟩
  rw [← hp]
  obtain ⟨p1, p2⟩ := p
  replace hp := Lib.hid hp
  simp only
  go_wp2_with fail
  refine (HL.out _ (below_tr hBA.out hb3'.out)).mono ?_
  rintro e w4 ⟨V2, rfl, hr2, hb4⟩
  clear x0 x1 x2 x3
  have hb4' := Lib.hid (below_tr hb3'.out hb4)
  replace hr2 := Lib.hid hr2
  clear hb3' hb4
  go_wp2_with fail
  refine (vitalTop_any V2 L f t s w4 hr2.out).mono ?_
  obtain ⟨v, hv⟩ : ∃ v, v = vitalR L f t s := ⟨_, rfl⟩
  rw [← hv]
  obtain ⟨v1, v2⟩ := v
  rintro e w5 ⟨A5, c5, rfl, hrow5, _, hb5⟩
  simp only at hrow5
  simp only
  replace hv := Lib.hid hv
  replace hrow5 := Lib.hid hrow5
  have hb5' := below_tr hb4'.out hb5
  clear hb5 hr2 hb4'
  have x0 := (kept_of_below hb5') _ _ (hbox.out 0 _ rfl)
  have x1 := (kept_of_below hb5') _ _ (hbox.out 1 _ rfl)
  have x2 := (kept_of_below hb5') _ _ (hbox.out 2 _ rfl)
  have x3 := (kept_of_below hb5') _ _ (hbox.out 3 _ rfl)
  replace hb5' := Lib.hid hb5'
  have hl5 := cell_lt x0
  simp only at hl5
  go_wp2_with fail
  (refine wp_region_ov (by kernel_rfl) (by kernel_rfl) (fun R hR => ?_); (repeat (go_big_quiet_step ((first | (go_at_call 19; exact calls_ov (HA.out _ _ _ _ _ (below_tr (below_tr hBA.out hb5'.out) (ov_bel _ _)))))))); refine wpQuiet_nil ?_; refine hR.out _ ?_; clear hR R; intro W hW; have hc := hW.cells; have hf := hW.frozens; have hz := hW.size; (try simp at hz))
  have hb6 := below_tr hb5'.out hW
  replace hrow5 := Lib.hid (hrow5.out.kept (kept_of_below hW))
  clear hc hf hz hl5 x0 x1 x2 x3 hW
  clear hb5'
  have x0 := (kept_of_below hb6) _ _ (hbox.out 0 _ rfl)
  have x1 := (kept_of_below hb6) _ _ (hbox.out 1 _ rfl)
  have x2 := (kept_of_below hb6) _ _ (hbox.out 2 _ rfl)
  have x3 := (kept_of_below hb6) _ _ (hbox.out 3 _ rfl)
  replace hb6 := Lib.hid hb6
  obtain ⟨eb, heb⟩ : ∃ eb, eb = openE L [f, t] [b] 0 := ⟨_, rfl⟩
  obtain ⟨es, hes⟩ : ∃ es, es = openE L [f, t] [s] 0 := ⟨_, rfl⟩
  rw [← heb, ← hes]
  rw [← heb] at HRL
  rw [← hes] at HRS
  replace heb := Lib.hid heb
  replace hes := Lib.hid hes
  go_upto_if 53 with fail
  go_cut [15, 17] from 53 to 60 (fun v15 v17 wc => LatRel W p1 p2 v15 v17 wc)
  case first =>
    by_cases h0 : eb = 0
    · have hdec : (eb == 0) = true := by rw [h0]; rfl
      have hle := Lib.hid (latest_eq (heb.out.symm.trans h0))
      obtain ⟨rl, hrl⟩ : ∃ rl, rl = rlatR L f.toNat t.toNat b := ⟨_, rfl⟩
      rw [← hrl, ← hp.out] at hle
      rw [← hrl] at HRL
      replace hrl := Lib.hid hrl
      have h00 := Lib.hid h0
      clear h0
      go_wp2_with fail
      refine (HRL.out _ (below_tr hBA.out hb6.out) h00.out).mono ?_
      rintro e w7 ⟨rfl, hb7⟩
      by_cases hneg : rl < 0
      · have hq := Lib.hid (hle.out.1 hneg)
        replace hb7 := Lib.hid hb7
        go_wp2_with fail
        go_meet
        cases hq.out
        exact ⟨rfl, rfl, hb7.out⟩
      · have hq := Lib.hid (hle.out.2 (by omega))
        replace hb7 := Lib.hid hb7
        go_wp2_with fail
        go_meet
        cases hq.out
        exact ⟨by rw [h00.out], rfl, hb7.out⟩
    · have hdec : (eb == 0) = false := by simpa using h0
      have hq : Hid ((p1, p2) = (0, eb)) := Lib.hid (by rw [hp.out, latest_err (by rw [← heb.out]; exact h0), ← heb.out])
      clear h0
      go_wp2_with fail
      go_meet
      obtain ⟨e1, e2⟩ := Prod.mk.inj hq.out
      rw [e1, e2]
      exact ⟨rfl, rfl, Below.refl _ _⟩
  case rest =>
    obtain ⟨rfl, rfl, hbc⟩ := hcut
    clear x0 x1 x2 x3 HRL
    have hb8 := below_tr hb6.out hbc
    have x0 := (kept_of_below hb8) _ _ (hbox.out 0 _ rfl)
    have x1 := (kept_of_below hb8) _ _ (hbox.out 1 _ rfl)
    have x2 := (kept_of_below hb8) _ _ (hbox.out 2 _ rfl)
    have x3 := (kept_of_below hb8) _ _ (hbox.out 3 _ rfl)
    have hl8 := cell_lt x0
    simp only at hl8
    replace hrow5 := Lib.hid (hrow5.out.kept (kept_of_below hbc))
    replace hb8 := Lib.hid hb8
    clear hb6 hbc
    have hV0 : Hid (v2 ≠ 0 → v1 = []) := Lib.hid (fun h => by
      have h1 := hv.out
      by_cases h0 : es = 0
      · by_cases hst : 0 < (rstuckR L (-1) f.toNat t.toNat s.toNat).length
        · rw [(vital_eq (hes.out.symm.trans h0)).1 hst] at h1; cases h1; rfl
        · rw [(vital_eq (hes.out.symm.trans h0)).2 hst] at h1; cases h1; exact absurd rfl h
      · rw [vital_err (by rw [← hes.out]; exact h0)] at h1; cases h1; rfl)
    have hV1 : Hid (v2 = 0 → es = 0 ∧ v1 = fiTo (lvB L f t s.toNat) L.st.length) := Lib.hid (fun h => by
      have h1 := hv.out
      by_cases h0 : es = 0
      · by_cases hst : 0 < (rstuckR L (-1) f.toNat t.toNat s.toNat).length
        · rw [(vital_eq (hes.out.symm.trans h0)).1 hst] at h1; cases h1; cases h
        · rw [(vital_eq (hes.out.symm.trans h0)).2 hst] at h1; cases h1; exact ⟨h0, rfl⟩
      · rw [vital_err (by rw [← hes.out]; exact h0)] at h1
        have := (Prod.mk.inj h1).2
        exact absurd (by rw [hes.out, ← this]; exact h) h0)
    have hV2 : Hid (es ≠ 0 → v2 = es) := Lib.hid (fun h0 => by
      have h1 := hv.out
      rw [vital_err (by rw [← hes.out]; exact h0)] at h1
      rw [(Prod.mk.inj h1).2, hes.out])
    have hV3 : Hid (es = 0 → 0 < (rstuckR L (-1) f.toNat t.toNat s.toNat).length → v2 = 10) := Lib.hid (fun h0 hst => by
      have h1 := hv.out
      rw [(vital_eq (hes.out.symm.trans h0)).1 hst] at h1
      exact (Prod.mk.inj h1).2)
    have hV4 : Hid (es = 0 → ¬ 0 < (rstuckR L (-1) f.toNat t.toNat s.toNat).length → v2 = 0) := Lib.hid (fun h0 hst => by
      have h1 := hv.out
      rw [(vital_eq (hes.out.symm.trans h0)).2 hst] at h1
      exact (Prod.mk.inj h1).2)
    have hS0 : Hid (es = 0 → 0 < L.st.length) := Lib.hid (fun h0 => by
      obtain ⟨_, hst, _⟩ := openE_zero (hes.out.symm.trans h0)
      have := hst f (by simp)
      omega)
    clear hv hes
    obtain ⟨w8, rfl⟩ : ∃ w8, w8 = wc := ⟨wc, rfl⟩
    go_upto_if 62 with fail
    go_cut [16, 18] from 62 to 102 (fun v16 v18 wy => DueRel w8 v2 v1 v16 v18 wy)
    case first =>
      by_cases h0 : es = 0
      · have hdec : (es == 0) = true := by rw [h0]; rfl
        have hsp := hS0.out h0
        have h00 := Lib.hid h0
        clear h0
        go_wp2_with fail
        refine (HRS.out _ _ (below_tr hBA.out hb8.out) h00.out).mono ?_
        obtain ⟨rl, hrl⟩ : ∃ rl, rl = rstuckR L (-1) f.toNat t.toNat s.toNat := ⟨_, rfl⟩
        rw [← hrl]
        rintro e w7 ⟨A7, c7, rfl, _, _, hb7⟩
        have y0 := (kept_of_below (hb8.out.trans (hb7.mono hb8.out.size))) _ _ (hbox.out 0 _ rfl)
        have y1 := (kept_of_below (hb8.out.trans (hb7.mono hb8.out.size))) _ _ (hbox.out 1 _ rfl)
        have y2 := (kept_of_below (hb8.out.trans (hb7.mono hb8.out.size))) _ _ (hbox.out 2 _ rfl)
        have y3 := (kept_of_below (hb8.out.trans (hb7.mono hb8.out.size))) _ _ (hbox.out 3 _ rfl)
        have hl7 := cell_lt y0
        simp only at hl7
        replace hb7 := Lib.hid hb7
        clear x0 x1 x2 x3 hl8
        by_cases hpos : 0 < rl.length
        · have hq := Lib.hid (hV3.out h00.out (by rw [← hrl]; exact hpos))
          have hq2 := Lib.hid (hV0.out (by rw [hq.out]; decide))
          replace hrl := Lib.hid hrl
          go_wp2_with fail
          go_loopw [19, 18] (fun i v wr => i = .int .i64 0 ∧ v = .slice none 0 0 ∧ wr = w7) (fun _ _ _ => 0)
          case atStart => exact ⟨rfl, rfl, rfl⟩
          case round =>
            obtain ⟨rfl, rfl, rfl⟩ := hrel
            go_wp2_with fail
            go_meet
            exact ⟨by rw [hq.out], ⟨none, 0, by rw [hq2.out]; rfl, by rw [hq2.out]; exact RowAt.nil _ _ _ _⟩, hb7.out⟩
        · have hq := Lib.hid (hV4.out h00.out (by rw [← hrl]; exact hpos))
          have hq2 := Lib.hid (hV1.out hq.out).2
          replace hrl := Lib.hid hrl
          obtain ⟨q, hqq⟩ : ∃ q, q = lvB L f t s.toNat := ⟨_, rfl⟩
          rw [← hqq] at hq2
          replace hqq := Lib.hid hqq
          clear y0 y1 y2 y3
          go_wp2_with fail
          go_loopw [19, 18] (fun i v wr => LvI w7 q L.st.length i v wr) (fun i _ _ => L.st.length - (intOf i).toNat)
          case atStart => exact ⟨0, Nat.zero_le _, rfl, World.ownsRow_nil _ _ _ _, Below.refl _ _⟩
          case round =>
            obtain ⟨j, hj, rfl, hown, hbr⟩ := hrel
            have hbA := Lib.hid (below_tr (below_tr hb8.out hb7.out) hbr)
            have x0 := (kept_of_below hbA.out) _ _ (hbox.out 0 _ rfl)
            have x1 := (kept_of_below hbA.out) _ _ (hbox.out 1 _ rfl)
            have x2 := (kept_of_below hbA.out) _ _ (hbox.out 2 _ rfl)
            have x3 := (kept_of_below hbA.out) _ _ (hbox.out 3 _ rfl)
            have hsn := Lib.hid (fiTo_succ q j)
            have hq1 : Hid (q j = (((j : Int) != f) && ((j : Int) != t) && decide (0 < (rstuckR L j f.toNat t.toNat s.toNat).length))) := Lib.hid (by rw [hqq.out]; rfl)
            by_cases hlt : j < L.st.length
            · replace hown := Lib.hid hown
              replace hbr := Lib.hid hbr
              cases hjf : ((j : Int) != f) with
              | false =>
                have hno : Hid (q j = false) := Lib.hid (by rw [hq1.out, hjf]; rfl)
                go_wp2_with fail
                go_roundw
                case rel => exact ⟨j + 1, by omega, by go_num, by rw [hsn.out]; simp only [hno.out, Bool.false_eq_true, if_false, List.append_nil]; exact hown.out, hbr.out⟩
                case measure => simp [intOf]; omega
              | true =>
                cases hjt : ((j : Int) != t) with
                | false =>
                  have hno : Hid (q j = false) := Lib.hid (by rw [hq1.out, hjt]; simp)
                  go_wp2_with fail
                  go_roundw
                  case rel => exact ⟨j + 1, by omega, by go_num, by rw [hsn.out]; simp only [hno.out, Bool.false_eq_true, if_false, List.append_nil]; exact hown.out, hbr.out⟩
                  case measure => simp [intOf]; omega
                | true =>
                  go_wp2_with fail
                  refine (HRS.out _ _ (below_tr hBA.out hbA.out) h00.out).mono ?_
                  obtain ⟨rj, hrj⟩ : ∃ rj, rj = rstuckR L j f.toNat t.toNat s.toNat := ⟨_, rfl⟩
                  rw [← hrj]
                  rw [← hrj] at hq1
                  rintro e w9 ⟨A9, c9, rfl, _, _, hb9⟩
                  have hbr2 := below_tr hbr.out hb9
                  have hown2 := owns_below hown.out hb9
                  have hsz2 := hbr2.size
                  have hlo := Lib.hid hown2.lt
                  have hln := fiTo_len q j
                  replace hrj := Lib.hid hrj
                  clear hb9 x0 x1 x2 x3
                  by_cases hps : 0 < rj.length
                  · have hyes : Hid (q j = true) := Lib.hid (by rw [hq1.out, hjf, hjt]; simpa using hps)
                    go_wp2_with (at_builtin; refine wpList_append_own _ rfl _ _ 40 rfl w7.heap.size 3 i0 (.int .i64 0) 1 8 Tryz.underlying40 hi0 hz0 hz1 hz2 rfl (by decide) _ _ _ rfl (hown2.alloc _) ⟨w9.heap.size, 0, none⟩ 1 1 [.int .i64 j] rfl rfl ?c1 ?c2 ?c3 ?c4 ?c5 ?_)
                    case c1 => exact cell_one_new _ _ _
                    case c2 => simp [Value.oneCell']
                    case c3 => unfold maxLen; omega
                    case c4 => omega
                    case c5 => simp; omega
                    intro v' w4 hown4 hgrow _
                    have hB4 : Below w7.heap.size w7 w4 := Below.grown (w := w9.alloc (.cells #[.int .i64 j] 3)) (hbr2.alloc hsz2 _) hgrow (by simp; omega) (fun k hk => (hlo.out k hk).1)
                    replace hB4 := Lib.hid hB4
                    replace hown4 := Lib.hid hown4
                    clear hgrow hbr2 hown2
                    go_wp2_with fail
                    go_roundw
                    case rel => exact ⟨j + 1, by omega, by go_num, by rw [hsn.out]; simp only [hyes.out, if_true, List.length_append, List.map_append]; exact hown4.out, hB4.out⟩
                    case measure => simp [intOf]; omega
                  · have hno : Hid (q j = false) := Lib.hid (by rw [hq1.out, decide_eq_false hps]; simp)
                    replace hown2 := Lib.hid hown2
                    replace hbr2 := Lib.hid hbr2
                    go_wp2_with fail
                    go_roundw
                    case rel => exact ⟨j + 1, by omega, by go_num, by rw [hsn.out]; simp only [hno.out, Bool.false_eq_true, if_false, List.append_nil]; exact hown2.out, hbr2.out⟩
                    case measure => simp [intOf]; omega
            · obtain rfl : j = L.st.length := by omega
              rw [← hq2.out] at hown
              obtain ⟨A, cc, hvv, hrow, hlc, _⟩ := row_of_ints hown
              subst hvv
              replace hrow := Lib.hid hrow
              have hbr' := Lib.hid (below_tr hb7.out hbr)
              clear hown hbr
              go_wp2_with fail
              go_meet
              exact ⟨by rw [hq.out, h00.out], ⟨A, cc, rfl, hrow.out⟩, hbr'.out⟩
      · have hdec : (es == 0) = false := by simpa using h0
        have hq := Lib.hid (hV2.out h0)
        have hq2 := Lib.hid (hV0.out (by rw [hq.out]; exact h0))
        clear h0
        go_wp2_with fail
        go_meet
        exact ⟨by rw [hq.out], ⟨none, 0, by rw [hq2.out]; rfl, by rw [hq2.out]; exact RowAt.nil _ _ _ _⟩, Below.refl _ _⟩
    case rest =>
      obtain ⟨rfl, ⟨A9, c9, rfl, hrow9⟩, hbc⟩ := hcut
      have hlv : v1.length ≤ 9 := by
        by_cases h : v2 = 0
        · rw [(hV1.out h).2]; have := fiTo_len (lvB L f t s.toNat) L.st.length; omega
        · rw [hV0.out h]; simp
      replace hrow5 := Lib.hid (hrow5.out.kept (kept_of_below hbc))
      replace hrow9 := Lib.hid hrow9
      have hBw : Hid (Below w.heap.size w wc) := Lib.hid (below_tr hBA.out (below_tr hb8.out hbc))
      clear hbc hb8 x0 x1 x2 x3 hl8 hV0 hV1 hV2 hV3 hV4 hS0 HRS HL HA HT
      go_wp2_with fail
      refine (lints_any A5 A9 c5 c9 v1 v1 _ hrow5.out hrow9.out (by omega) (by omega)).mono ?_
      rw [decide_eq_true rfl]
      rintro e w9 ⟨rfl, hb9⟩
      replace hb9 := Lib.hid hb9
      go_wp2_with fail
      refine (awake_any _).mono ?_
      rintro e w10 ⟨rfl, hb10⟩
      replace hb10 := Lib.hid hb10
      go_wp2_with fail
      go_ret
      exact ⟨rfl, below_tr hBw.out (below_tr hb9.out hb10.out)⟩

set_option maxRecDepth 100000 in
set_option maxHeartbeats 8000000 in
theorem latestLaw_any (V : LV) (L : Lnd) (f t s b : Int) (w : World) (hr : RawL w V L) :
    Calls Tryz.prog 3 #[vLnd V L, .int .i64 f, .int .i64 t, .int .i64 s, .int .i64 b] w fun e w' => e = .returned (.bool true) ∧ Below w.heap.size w w' := by
  cases hth : thinB L with
  | true => exact latestLaw_thin V L f t s b w (hr.thin hth) hth
  | false =>
    have HT := Lib.hid (fun W (hW : Below w.heap.size w W) => by have h := thin_any V L W ⟨hr.st.kept (kept_of_below hW), hr.ri.kept (kept_of_below hW), hr.ca.kept (kept_of_below hW), hr.su.kept (kept_of_below hW), hr.k0, hr.k1, hr.k2, hr.k3⟩; rw [hth] at h; exact h)
    obtain ⟨a0, c0, a1, c1, a2, c2, a3, c3⟩ := V
    simp only [vLnd] at *
    clear hr hth
    go_enter Tryz.func3, Tryz.ntmps3
    go_wp2_with (first | (go_at_call 14; refine (HT.out _ (by (repeat (first | exact Below.refl _ _ | (with_reducible exact Hid.out (by assumption)) | refine below_al ?_ _ | refine below_dr ?_ | refine below_tr ?_ (by assumption) | refine below_tr ?_ (Bel.out (by assumption)) | refine below_tr ?_ (Bel.out (ov_bel _ _)) | refine below_set ?_ (by simp; try omega))))).mono ?_; rintro e w' ⟨rfl, hb⟩; obtain ⟨hc, hf⟩ := bcell hb; have hz := hb.size; try simp at hz) | (go_at_call 15; refine (awake_any _).mono ?_; rintro e w' ⟨rfl, hb⟩; obtain ⟨hc, hf⟩ := bcell hb; have hz := hb.size; try simp at hz))
    go_ret
    exact ⟨rfl, by (repeat (first | exact Below.refl _ _ | (with_reducible exact Hid.out (by assumption)) | refine below_al ?_ _ | refine below_dr ?_ | refine below_tr ?_ (by assumption) | refine below_tr ?_ (Bel.out (by assumption)) | refine below_tr ?_ (Bel.out (ov_bel _ _)) | refine below_set ?_ (by simp; try omega)))⟩
end Go.Proofs.YtdfohielnfdmkaaGreat

