/- For every input the law RelayHome returns true, and the input reads as it did. No condition. -/
import Derived.Test.YtdfohielnfdmkaaGreatKW
import Derived.Test.YtdfohielnfdmkaaGreatKV
import Derived.Test.YtdfohielnfdmkaaGreatKR
set_option linter.unusedVariables false
set_option linter.unusedSimpArgs false
/- Walks: the law RelayHome. -/
set_option linter.unusedVariables false
set_option linter.unusedSimpArgs false
namespace Go.Proofs.YtdfohielnfdmkaaGreat
open Go.RowKit
attribute [local go_sem low] cell_alloc_ite frozen_alloc_ite ov_cell ov_frozen

set_option maxRecDepth 100000 in
set_option maxHeartbeats 8000000 in
theorem homeLaw_ready (V : LV) (L : Lnd) (a b : Nat) (w : World) (hraw : RawL w V L) (hrb : readyB L = true) (ha : a ≤ 255) (hb : b ≤ 255) :
    Calls Tryz.prog 12 #[vLnd V L, .int .u8 a, .int .u8 b] w fun e w' => e = .returned (.bool true) ∧ Below w.heap.size w w' := by
  obtain ⟨hth, hf⟩ := ready_fault hrb
  have hr := hraw.thin hth
  have ok := okay_of hf
  have hok0 : 0 < L.st.length := ok.s0
  have hok2 : 0 < L.ca.length := ok.c0
  have HT := Lib.hid (fun W (hW : Below w.heap.size w W) => by have h := ready_any V L W ⟨hraw.st.kept (kept_of_below hW), hraw.ri.kept (kept_of_below hW), hraw.ca.kept (kept_of_below hW), hraw.su.kept (kept_of_below hW), hraw.k0, hraw.k1, hraw.k2, hraw.k3⟩; rw [hrb] at h; exact h)
  have HL := Lib.hid (fun W (hW : Below w.heap.size w W) => landB_any V L w W hr hW)
  have HN := Lib.hid (fun W (hW : Below w.heap.size w W) => numbers_any V L a b 0 W (hr.below hW) ha hb (by omega) hok0 hok2)
  have hf1 : a % L.st.length < L.st.length := Nat.mod_lt _ hok0
  have hs1 : b % (L.su.length + 1) < L.su.length + 1 := Nat.mod_lt _ (by omega)
  generalize hfe : a % L.st.length = f at *
  generalize hse : b % (L.su.length + 1) = s at *
  have hop := open2_val (L := L) (f := f) (t := f) (s := s) hf hf1 hf1 (by omega)
  have HS := Lib.hid (home_sure hop)
  have HRt := Lib.hid (home_route hop)
  have HV := Lib.hid (home_vital hop)
  have HLt := Lib.hid (home_latest hop)
  have HP := Lib.hid (home_prove hop)
  obtain ⟨a0, c0, a1, c1, a2, c2, a3, c3⟩ := V
  simp only [vLnd] at *
  clear hr hraw hth hrb ok hop hf
  go_enter Tryz.func12, Tryz.ntmps12
  go_wp2_with fail
  generalize hA : w.alloc (.cells #[.slice a0 L.st.length c0, .slice a1 L.ri.length c1, .slice a2 L.ca.length c2, .slice a3 L.su.length c3] 27) = wA
  have hBA : Below w.heap.size w wA := by subst hA; (repeat (first | exact Below.refl _ _ | (with_reducible exact Hid.out (by assumption)) | refine below_al ?_ _ | refine below_dr ?_ | refine below_tr ?_ (by assumption) | refine below_tr ?_ (Bel.out (by assumption)) | refine below_tr ?_ (Bel.out (ov_bel _ _)) | refine below_set ?_ (by simp; try omega)))
  have hbox : CellsAt wA w.heap.size [.slice a0 L.st.length c0, .slice a1 L.ri.length c1, .slice a2 L.ca.length c2, .slice a3 L.su.length c3] := by subst hA; exact cells4 (by (try go_simp); (repeat (simp only [↓IntWalk.iteOmega]; (try go_simp))); (try omega)) (by (try go_simp); (repeat (simp only [↓IntWalk.iteOmega]; (try go_simp))); (try omega)) (by (try go_simp); (repeat (simp only [↓IntWalk.iteOmega]; (try go_simp))); (try omega)) (by (try go_simp); (repeat (simp only [↓IntWalk.iteOmega]; (try go_simp))); (try omega))
  clear hA
  replace hBA := Lib.hid hBA
  replace hbox := Lib.hid hbox
  refine (HT.out _ hBA.out).mono ?_
  rintro e w1 ⟨rfl, hb1⟩
  have x0 := (kept_of_below hb1) _ _ (hbox.out 0 _ rfl)
  have x1 := (kept_of_below hb1) _ _ (hbox.out 1 _ rfl)
  have x2 := (kept_of_below hb1) _ _ (hbox.out 2 _ rfl)
  have x3 := (kept_of_below hb1) _ _ (hbox.out 3 _ rfl)
  replace hb1 := Lib.hid hb1
  go_wp2_with fail
  refine (HN.out _ (below_tr hBA.out hb1.out)).mono ?_
  rintro e w2 ⟨rfl, hb2⟩
  have hb2' := below_tr hb1.out hb2
  clear hb1 hb2 x0 x1 x2 x3
  have x0 := (kept_of_below hb2') _ _ (hbox.out 0 _ rfl)
  have x1 := (kept_of_below hb2') _ _ (hbox.out 1 _ rfl)
  have x2 := (kept_of_below hb2') _ _ (hbox.out 2 _ rfl)
  have x3 := (kept_of_below hb2') _ _ (hbox.out 3 _ rfl)
  replace hb2' := Lib.hid hb2'
  go_wp2_with fail
  refine (HL.out _ (below_tr hBA.out hb2'.out)).mono ?_
  rintro e w3 ⟨V1, rfl, hr1, hb3⟩
  clear x0 x1 x2 x3
  have hb3' := Lib.hid (below_tr hb2'.out hb3)
  replace hr1 := Lib.hid hr1
  clear hb2' hb3
  go_wp2_with fail
  refine (sureTop_any V1 L f f s w3 hr1.out).mono ?_
  unfold SureTop
  rw [HS.out]
  rintro e w4 ⟨rfl, hb4⟩
  have hb4' := below_tr hb3'.out hb4
  clear hb3' hb4 hr1
  have x0 := (kept_of_below hb4') _ _ (hbox.out 0 _ rfl)
  have x1 := (kept_of_below hb4') _ _ (hbox.out 1 _ rfl)
  have x2 := (kept_of_below hb4') _ _ (hbox.out 2 _ rfl)
  have x3 := (kept_of_below hb4') _ _ (hbox.out 3 _ rfl)
  replace hb4' := Lib.hid hb4'
  go_wp2_with fail
  refine (HL.out _ (below_tr hBA.out hb4'.out)).mono ?_
  rintro e w5 ⟨V2, rfl, hr2, hb5⟩
  clear x0 x1 x2 x3
  have hb5' := Lib.hid (below_tr hb4'.out hb5)
  replace hr2 := Lib.hid hr2
  clear hb4' hb5
  go_wp2_with fail
  refine (routeTop_any V2 L f f s w5 hr2.out).mono ?_
  rw [HRt.out]
  rintro e w6 ⟨A6, c6, rfl, _, _, _, hb6⟩
  have hb6' := below_tr hb5'.out hb6
  clear hb5' hb6 hr2
  have x0 := (kept_of_below hb6') _ _ (hbox.out 0 _ rfl)
  have x1 := (kept_of_below hb6') _ _ (hbox.out 1 _ rfl)
  have x2 := (kept_of_below hb6') _ _ (hbox.out 2 _ rfl)
  have x3 := (kept_of_below hb6') _ _ (hbox.out 3 _ rfl)
  replace hb6' := Lib.hid hb6'
  go_wp2_with fail
  refine (HL.out _ (below_tr hBA.out hb6'.out)).mono ?_
  rintro e w7 ⟨V3, rfl, hr3, hb7⟩
  clear x0 x1 x2 x3
  have hb7' := Lib.hid (below_tr hb6'.out hb7)
  replace hr3 := Lib.hid hr3
  clear hb6' hb7
  go_wp2_with fail
  refine (vitalTop_any V3 L f f s w7 hr3.out).mono ?_
  rw [HV.out]
  rintro e w8 ⟨A8, c8, rfl, _, _, hb8⟩
  have hb8' := below_tr hb7'.out hb8
  clear hb7' hb8 hr3
  have x0 := (kept_of_below hb8') _ _ (hbox.out 0 _ rfl)
  have x1 := (kept_of_below hb8') _ _ (hbox.out 1 _ rfl)
  have x2 := (kept_of_below hb8') _ _ (hbox.out 2 _ rfl)
  have x3 := (kept_of_below hb8') _ _ (hbox.out 3 _ rfl)
  replace hb8' := Lib.hid hb8'
  go_wp2_with fail
  refine (HL.out _ (below_tr hBA.out hb8'.out)).mono ?_
  rintro e w9 ⟨V4, rfl, hr4, hb9⟩
  clear x0 x1 x2 x3
  have hb9' := Lib.hid (below_tr hb8'.out hb9)
  replace hr4 := Lib.hid hr4
  clear hb8' hb9
  go_wp2_with fail
  refine (latestTop_any V4 L f f s w9 hr4.out).mono ?_
  unfold PairTop
  rw [HLt.out]
  rintro e w10 ⟨rfl, hb10⟩
  have hb10' := below_tr hb9'.out hb10
  clear hb9' hb10 hr4
  have x0 := (kept_of_below hb10') _ _ (hbox.out 0 _ rfl)
  have x1 := (kept_of_below hb10') _ _ (hbox.out 1 _ rfl)
  have x2 := (kept_of_below hb10') _ _ (hbox.out 2 _ rfl)
  have x3 := (kept_of_below hb10') _ _ (hbox.out 3 _ rfl)
  replace hb10' := Lib.hid hb10'
  go_wp2_with fail
  refine (HL.out _ (below_tr hBA.out hb10'.out)).mono ?_
  rintro e w11 ⟨V5, rfl, hr5, hb11⟩
  clear x0 x1 x2 x3
  have hb11' := Lib.hid (below_tr hb10'.out hb11)
  replace hr5 := Lib.hid hr5
  clear hb10' hb11
  go_wp2_with fail
  refine (proveRoute_any V5 L f f s s none 0 [] w11 hr5.out (RowAt.nil _ _ _ _) (by simp)).mono ?_
  rintro e w12 ⟨bb, hbb, rfl, hb12⟩
  obtain rfl : bb = true := hbb.2 HP.out
  have hb12' := Lib.hid (below_tr hb11'.out hb12)
  clear hb11' hb12 hr5 hbb
  go_wp2_with fail
  refine (awake_any _).mono ?_
  rintro e w13 ⟨rfl, hb13⟩
  replace hb13 := Lib.hid hb13
  go_wp2_with fail
  go_ret
  exact ⟨rfl, below_tr hBA.out (below_tr hb12'.out hb13.out)⟩

set_option maxRecDepth 100000 in
set_option maxHeartbeats 8000000 in
theorem homeLaw_any (V : LV) (L : Lnd) (a b : Nat) (w : World) (hr : RawL w V L) (ha : a ≤ 255) (hb : b ≤ 255) :
    Calls Tryz.prog 12 #[vLnd V L, .int .u8 a, .int .u8 b] w fun e w' => e = .returned (.bool true) ∧ Below w.heap.size w w' := by
  cases hrb : readyB L with
  | true => exact homeLaw_ready V L a b w hr hrb ha hb
  | false =>
    have HT := Lib.hid (fun W (hW : Below w.heap.size w W) => by have h := ready_any V L W ⟨hr.st.kept (kept_of_below hW), hr.ri.kept (kept_of_below hW), hr.ca.kept (kept_of_below hW), hr.su.kept (kept_of_below hW), hr.k0, hr.k1, hr.k2, hr.k3⟩; rw [hrb] at h; exact h)
    obtain ⟨a0, c0, a1, c1, a2, c2, a3, c3⟩ := V
    simp only [vLnd] at *
    clear hr hrb
    go_enter Tryz.func12, Tryz.ntmps12
    go_wp2_with (first | (go_at_call 36; refine (HT.out _ (by (repeat (first | exact Below.refl _ _ | (with_reducible exact Hid.out (by assumption)) | refine below_al ?_ _ | refine below_dr ?_ | refine below_tr ?_ (by assumption) | refine below_tr ?_ (Bel.out (by assumption)) | refine below_tr ?_ (Bel.out (ov_bel _ _)) | refine below_set ?_ (by simp; try omega))))).mono ?_; rintro e w' ⟨rfl, hb⟩; obtain ⟨hc, hf⟩ := bcell hb; have hz := hb.size; try simp at hz) | (go_at_call 15; refine (awake_any _).mono ?_; rintro e w' ⟨rfl, hb⟩; obtain ⟨hc, hf⟩ := bcell hb; have hz := hb.size; try simp at hz))
    go_ret
    exact ⟨rfl, by (repeat (first | exact Below.refl _ _ | (with_reducible exact Hid.out (by assumption)) | refine below_al ?_ _ | refine below_dr ?_ | refine below_tr ?_ (by assumption) | refine below_tr ?_ (Bel.out (by assumption)) | refine below_tr ?_ (Bel.out (ov_bel _ _)) | refine below_set ?_ (by simp; try omega)))⟩
end Go.Proofs.YtdfohielnfdmkaaGreat

/- For every input the law RelayHome returns true, and the input reads as it did. No condition. -/
set_option linter.unusedVariables false
namespace Go.Proofs.YtdfohielnfdmkaaGreat
open Go.ChangeShapes Go.WideShapes Go.ChangeAt Go.RowKit

set_option maxRecDepth 100000 in
theorem home_row_lifted (os : Os) (started : os.Started) (H : Type) (enc : TypeId × Value → H) :
    ReturnsInHanded {} Tryz.checked os 12 .any (Rows.relayHomeSpec.pre6 enc Tryz.prog Tryz.f12 Rows.relayHomeRow.domain false) (Rows.relayHomeSpec.post enc Tryz.prog Tryz.f12 false true false false) := by
  refine returnsInHanded_of_change (C := Tryz.checked) own started (by kernel_rfl) Tryz.func12
    (ChangeSpec.witness6 (enc := enc) (C := Tryz.checked) false ⟨#[], #[.agg #[.slice none 0 0, .slice none 0 0, .slice none 0 0, .slice none 0 0], .int .u8 0, .int .u8 0], []⟩ 8 (by kernel_rfl) (by kernel_rfl) (by kernel_rfl) (by kernel_rfl)) ?_
  intro W base args ds gs before hval0 hW hcnd _
  have hval : ∀ (j : Nat) t v, Tryz.f12.params[j]? = some t → args[j]? = some v → Value.okWide Tryz.prog W .any base t v := hval0
  have hW' := hW
  obtain ⟨p, q, hA0, hV, rfl, hfz, hnd⟩ := hW
  have hA : DataW.TrodAll enc Tryz.prog W 0 (fun _ => true) true Tryz.f12.params.toList args.toList ds p := hA0
  rw [Tryz.params12] at hA hval
  obtain ⟨v0, vs0, d0, ds0, p0, q0, hargs, rfl, rfl, h0, r0⟩ := trodAll_cons hA
  obtain ⟨v1, vs1, d1, ds1, p1, q1, rfl, rfl, rfl, h1, r1⟩ := trodAll_cons r0
  obtain ⟨v2, vs2, d2, ds2, p2, q2, rfl, rfl, rfl, h2, r2⟩ := trodAll_cons r1
  obtain ⟨rfl, rfl, rfl⟩ := trodAll_nil r2
  obtain rfl : args = #[v0, v1, v2] := by cases args; simp_all
  obtain ⟨rfl, rfl⟩ := trodVars_none hV
  obtain ⟨V, L, rfl, hraw⟩ := open_land (hval 0 27 v0 rfl rfl) h0
  obtain ⟨a1, rfl, rfl, rfl, w1⟩ := open_int Tryz.underlying5 (hval 1 5 v1 rfl rfl) h1
  obtain ⟨a2, rfl, rfl, rfl, w2⟩ := open_int Tryz.underlying5 (hval 2 5 v2 rfl rfl) h2
  obtain ⟨k1, l1⟩ := bounds_u8 w1
  obtain ⟨k2, l2⟩ := bounds_u8 w2
  obtain ⟨n1, rfl⟩ := Int.eq_ofNat_of_zero_le k1
  obtain ⟨n2, rfl⟩ := Int.eq_ofNat_of_zero_le k2
  clear hA0 hval0
  simp only [List.append_nil] at hW'
  have hlt : ∀ x ∈ p0, x.block < W.heap.size := fun x hx => hW'.lt x (by simpa using hx)
  refine (homeLaw_any V L n1 n2 W hraw (by omega) (by omega)).mono fun e W' ⟨he, hg⟩ => ?_
  subst he
  exact ⟨_, rfl, post_below (pa := p0 ++ ([] ++ ([] ++ []))) (pv := []) hW' (fun _ _ _ => (trodAll_cons_mk (shut_bool Tryz.underlying4 _) trodAll_mk0))
    (fun sp hsp => (trodAll_cons_mk (WideElems.Trod_stays laidOut landRead landRow h0 (sp' := sp) (fun x hx => hg.same (hlt x hx)) (fun x hx => hsp x (by simpa using hx))) (trodAll_cons_mk (shut_int Tryz.underlying5 w1) (trodAll_cons_mk (shut_int Tryz.underlying5 w2) trodAll_mk0))))
    (fun _ _ => rfl) (by simp) hg (ok_one (by kernel_rfl) rfl (okWide_bool_mk Tryz.underlying4 _))⟩

theorem home_row_over : Rows.relayHomeRow.holds Tryz.pinned (OpenSpec.ofChange Rows.relayHomeSpec) :=
  OpenClaim.holds_of_wide 12 Tryz.f12 rfl rfl rfl rfl rfl rfl rfl ⟨rfl, rfl, rfl, rfl, rfl⟩ rfl rfl rfl rfl rfl (by kernel_rfl) Tryz.func12 (by kernel_rfl)
    (of_decide_eq_true (by kernel_rfl)) (by unfold Func.isWrapper; first | (rw [if_pos (by decide +kernel)]; kernel_rfl) | (rw [if_neg (by decide +kernel)]; exact ⟨rfl, rfl⟩))
    (fun os started H enc _ => home_row_lifted os started H enc)

theorem home_row_proved : Rows.RelayHomeSaid := home_row_over
#print axioms home_row_proved
end Go.Proofs.YtdfohielnfdmkaaGreat

