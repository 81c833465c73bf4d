/- For every input the law RelaySticks returns true, and the input reads as it did. No condition. -/
import Derived.Test.YtdfohielnfdmkaaGreatKV
import Derived.Test.YtdfohielnfdmkaaGreatKU
import Derived.Test.YtdfohielnfdmkaaGreatKR
set_option linter.unusedVariables false
set_option linter.unusedSimpArgs false
/- Walks: the law RelaySticks. -/
set_option linter.unusedVariables false
set_option linter.unusedSimpArgs false
namespace Go.Proofs.YtdfohielnfdmkaaGreat
open Go.RowKit
attribute [local go_sem low] cell_alloc_ite frozen_alloc_ite ov_cell ov_frozen

set_option maxRecDepth 100000 in
set_option maxHeartbeats 8000000 in
theorem sticksLaw_thin (V : LV) (L : Lnd) (f s : Int) (A : Option Addr) (c : Nat) (xs : List Hp) (w : World) (hr : RdL w V L) (hth : thinB L = true) (hx : RowAt w A 3 encHp xs) (lx : xs.length ≤ 15) :
    Calls Tryz.prog 10 #[vLnd V L, .int .i64 f, .int .i64 s, .slice A xs.length c] w fun e w' => e = .returned (.bool true) ∧ Below w.heap.size w w' := by
  have hraw : RawL w V L := ⟨hr.st, hr.ri, fun i l hl => by obtain ⟨b, o, A', c', h1, h2, h3, _, h4⟩ := hr.ca i l hl; exact ⟨b, o, A', c', h1, h2, h3, h4⟩, hr.su, hr.k0, hr.k1, hr.k2, hr.k3⟩
  have HT := Lib.hid (fun W (hW : Below w.heap.size w W) => by have h := thin_any V L W ⟨hraw.st.kept (kept_of_below hW), hraw.ri.kept (kept_of_below hW), hraw.ca.kept (kept_of_below hW), hraw.su.kept (kept_of_below hW), hraw.k0, hraw.k1, hraw.k2, hraw.k3⟩; rw [hth] at h; exact h)
  have HL := Lib.hid (fun W (hW : Below w.heap.size w W) => landB_any V L w W hr hW)
  have HA := Lib.hid (fun f t s k W (hW : Below w.heap.size w W) => lasked_any V L f t s k W (hr.below hW))
  have HRo := Lib.hid (fun W (hW : Below w.heap.size w W) => lroute_any A c xs W (hx.kept (kept_of_below hW)) lx)
  have HIs := Lib.hid (fun W (hW : Below w.heap.size w W) (h0 : 0 ≤ s) (h1 : s ≤ 100) => risRoute_any V L f s A c xs W (hr.below hW) (hx.kept (kept_of_below hW)) (by omega) h0 h1)
  have HRS := Lib.hid (fun W (hW : Below w.heap.size w W) (ok : Okay L) (hok : ∀ x ∈ xs, HopOk L x) => rstick_any V L A c xs W (hr.below hW) ok (hx.kept (kept_of_below hW)) (by omega) hok)
  have l0 := hr.l0
  have l3 := hr.l3
  obtain ⟨a0, c0, a1, c1, a2, c2, a3, c3⟩ := V
  simp only [vLnd] at *
  clear hr hraw hth hx
  go_enter Tryz.func10, Tryz.ntmps10
  go_wp2_with fail
  generalize hA : w.alloc (.cells #[.slice a0 L.st.length c0, .slice a1 L.ri.length c1, .slice a2 L.ca.length c2, .slice a3 L.su.length c3] 27) = wA
  have hBA : Below w.heap.size w wA := by subst hA; (repeat (first | exact Below.refl _ _ | (with_reducible exact Hid.out (by assumption)) | refine below_al ?_ _ | refine below_dr ?_ | refine below_tr ?_ (by assumption) | refine below_tr ?_ (Bel.out (by assumption)) | refine below_tr ?_ (Bel.out (ov_bel _ _)) | refine below_set ?_ (by simp; try omega)))
  have hbox : CellsAt wA w.heap.size [.slice a0 L.st.length c0, .slice a1 L.ri.length c1, .slice a2 L.ca.length c2, .slice a3 L.su.length c3] := by subst hA; exact cells4 (by (try go_simp); (repeat (simp only [↓IntWalk.iteOmega]; (try go_simp))); (try omega)) (by (try go_simp); (repeat (simp only [↓IntWalk.iteOmega]; (try go_simp))); (try omega)) (by (try go_simp); (repeat (simp only [↓IntWalk.iteOmega]; (try go_simp))); (try omega)) (by (try go_simp); (repeat (simp only [↓IntWalk.iteOmega]; (try go_simp))); (try omega))
  clear hA
  replace hBA := Lib.hid hBA
  replace hbox := Lib.hid hbox
  refine (HT.out _ hBA.out).mono ?_
  rintro e w1 ⟨rfl, hb1⟩
  have x0 := (kept_of_below hb1) _ _ (hbox.out 0 _ rfl)
  have x1 := (kept_of_below hb1) _ _ (hbox.out 1 _ rfl)
  have x2 := (kept_of_below hb1) _ _ (hbox.out 2 _ rfl)
  have x3 := (kept_of_below hb1) _ _ (hbox.out 3 _ rfl)
  replace hb1 := Lib.hid hb1
  go_wp2_with fail
  refine (HL.out _ (below_tr hBA.out hb1.out)).mono ?_
  rintro e w2 ⟨V1, rfl, hr1, hb2⟩
  clear x0 x1 x2 x3
  have hb2' := Lib.hid (below_tr hb1.out hb2)
  replace hr1 := Lib.hid hr1
  clear hb1 hb2
  go_wp2_with fail
  refine (HRo.out _ (below_tr hBA.out hb2'.out)).mono ?_
  rintro e w3 ⟨A3, c3', rfl, hrow3, hc3, hb3⟩
  have hb3' := Lib.hid (below_tr hb2'.out hb3)
  replace hr1 := Lib.hid (hr1.out.below hb3)
  replace hrow3 := Lib.hid hrow3
  clear hb2' hb3 hc3
  go_wp2_with fail
  refine (stickTop_any V1 L f s A3 c3' xs w3 hr1.out hrow3.out (by omega)).mono ?_
  rintro e w4 ⟨r, hir, rfl, hb4⟩
  have hb4' := below_tr hb3'.out hb4
  clear hb3' hb4 hrow3 hr1
  have x0 := (kept_of_below hb4') _ _ (hbox.out 0 _ rfl)
  have x1 := (kept_of_below hb4') _ _ (hbox.out 1 _ rfl)
  have x2 := (kept_of_below hb4') _ _ (hbox.out 2 _ rfl)
  have x3 := (kept_of_below hb4') _ _ (hbox.out 3 _ rfl)
  replace hb4' := Lib.hid hb4'
  replace hir := Lib.hid hir
  go_wp2_with fail
  refine (HA.out _ _ _ _ _ (below_tr hBA.out hb4'.out)).mono ?_
  rw [openE_dup]
  obtain ⟨ea, hea⟩ : ∃ ea, ea = openE L [f] [s] 0 := ⟨_, rfl⟩
  rw [← hea]
  rintro e w5 ⟨rfl, hb5⟩
  have hb5' := below_tr hb4'.out hb5
  replace hea := Lib.hid hea
  clear hb4' hb5 x0 x1 x2 x3
  have x0 := (kept_of_below hb5') _ _ (hbox.out 0 _ rfl)
  have x1 := (kept_of_below hb5') _ _ (hbox.out 1 _ rfl)
  have x2 := (kept_of_below hb5') _ _ (hbox.out 2 _ rfl)
  have x3 := (kept_of_below hb5') _ _ (hbox.out 3 _ rfl)
  have hBw : Hid (Below w.heap.size w w5) := Lib.hid (below_tr hBA.out hb5')
  replace hb5' := Lib.hid hb5'
  clear HT HL HA HRo
  rcases hir.out with ⟨h1, rfl⟩ | ⟨h1, h2⟩
  · rw [← hea.out] at h1 ⊢
    have hdec : (ea == 0) = false := by simpa using h1
    clear h1 hir HIs HRS
    simp only
    go_wp2_with fail
    refine (awake_any _).mono ?_
    rintro e w6 ⟨rfl, hb6⟩
    replace hb6 := Lib.hid hb6
    go_wp2_with fail
    go_ret
    exact ⟨rfl, below_tr hBw.out hb6.out⟩
  · obtain rfl : ea = 0 := by rw [hea.out, h1]
    obtain ⟨hf, hst, hti, _⟩ := openE_zero h1
    have ok := Lib.hid (okay_of hf)
    obtain ⟨f0, f1⟩ := hst f (by simp)
    obtain ⟨s0, s1⟩ := hti s (by simp)
    clear h1 hst hti hf hea hir
    rcases h2 with ⟨h12, rfl⟩ | ⟨h12, h3⟩
    · clear HIs HRS
      simp only
      go_wp2_with fail
      refine (awake_any _).mono ?_
      rintro e w6 ⟨rfl, hb6⟩
      replace hb6 := Lib.hid hb6
      go_wp2_with fail
      go_ret
      exact ⟨rfl, below_tr hBw.out hb6.out⟩
    · have hd12 : Hid (decide ((xs.length : Int) ≤ 12) = true) := Lib.hid (decide_eq_true (by omega))
      rcases h3 with ⟨hld, rfl⟩ | ⟨q, o, hld, hio, hr⟩
      · replace hld := Lib.hid hld
        simp only
        go_wp2_with fail
        refine (HIs.out _ hBw.out s0 (by omega)).mono ?_
        rw [hld.out]
        simp only [isRV]
        rintro e w6 ⟨rfl, hb6⟩
        replace hb6 := Lib.hid hb6
        clear HIs HRS x0 x1 x2 x3
        go_wp2_with fail
        refine (awake_any _).mono ?_
        rintro e w7 ⟨rfl, hb7⟩
        replace hb7 := Lib.hid hb7
        go_wp2_with fail
        go_ret
        exact ⟨rfl, below_tr hBw.out (below_tr hb6.out hb7.out)⟩
      · have hok := Lib.hid (leadsF_ok xs f s q hld f0 f1 s0).1
        replace hld := Lib.hid hld
        replace hio := Lib.hid hio
        obtain ⟨q1, q2⟩ := q
        replace hr := Lib.hid hr
        go_wp2_with fail
        refine (HIs.out _ hBw.out s0 (by omega)).mono ?_
        rw [hld.out]
        simp only [isRV]
        rw [hd12.out]
        rintro e w6 ⟨rfl, hb6⟩
        have hb6' := below_tr hb5'.out hb6
        clear x0 x1 x2 x3
        have x0 := (kept_of_below hb6') _ _ (hbox.out 0 _ rfl)
        have x1 := (kept_of_below hb6') _ _ (hbox.out 1 _ rfl)
        have x2 := (kept_of_below hb6') _ _ (hbox.out 2 _ rfl)
        have x3 := (kept_of_below hb6') _ _ (hbox.out 3 _ rfl)
        replace hb6 := Lib.hid hb6
        replace hb6' := Lib.hid hb6'
        go_wp2_with fail
        refine (HRS.out _ (below_tr hBw.out hb6.out) ok.out hok.out).mono ?_
        rintro e w7 ⟨o', hio', rfl, hb7⟩
        have hoo := hio'.unique hio.out
        subst hoo
        replace hb7 := Lib.hid (below_tr (below_tr hBw.out hb6.out) hb7)
        clear hio' HIs HRS x0 x1 x2 x3
        cases o' with
        | none =>
          obtain rfl : r = (0, 0, 7) := hr.out
          simp only [rstkV]
          go_wp2_with fail
          refine (awake_any _).mono ?_
          rintro e w8 ⟨rfl, hb8⟩
          replace hb8 := Lib.hid hb8
          go_wp2_with fail
          go_ret
          exact ⟨rfl, below_tr hb7.out hb8.out⟩
        | some ik =>
          obtain ⟨i, k⟩ := ik
          obtain rfl : r = ((i : Int), (k : Int), 0) := hr.out
          simp only [rstkV]
          go_wp2_with fail
          refine (awake_any _).mono ?_
          rintro e w8 ⟨rfl, hb8⟩
          replace hb8 := Lib.hid hb8
          go_wp2_with fail
          go_ret
          exact ⟨rfl, below_tr hb7.out hb8.out⟩

set_option maxRecDepth 100000 in
set_option maxHeartbeats 8000000 in
theorem sticksLaw_any (V : LV) (L : Lnd) (f s : Int) (A : Option Addr) (c : Nat) (xs : List Hp) (w : World) (hr : RawL w V L) (hx : RowAt w A 3 encHp xs) (hm : xs.length ≤ maxLen) :
    Calls Tryz.prog 10 #[vLnd V L, .int .i64 f, .int .i64 s, .slice A xs.length c] w fun e w' => e = .returned (.bool true) ∧ Below w.heap.size w w' := by
  unfold maxLen at hm
  have HT := Lib.hid (fun W (hW : Below w.heap.size w W) => thin_any V L W ⟨hr.st.kept (kept_of_below hW), hr.ri.kept (kept_of_below hW), hr.ca.kept (kept_of_below hW), hr.su.kept (kept_of_below hW), hr.k0, hr.k1, hr.k2, hr.k3⟩)
  cases hth : thinB L with
  | true =>
    by_cases h15 : xs.length ≤ 15
    · exact sticksLaw_thin V L f s A c xs w (hr.thin hth) hth hx h15
    · rw [hth] at HT
      obtain ⟨a0, c0, a1, c1, a2, c2, a3, c3⟩ := V
      simp only [vLnd] at *
      clear hr hth hx
      go_enter Tryz.func10, Tryz.ntmps10
      go_wp2_with (first | (go_at_call 14; refine (HT.out _ (by (repeat (first | exact Below.refl _ _ | (with_reducible exact Hid.out (by assumption)) | refine below_al ?_ _ | refine below_dr ?_ | refine below_tr ?_ (by assumption) | refine below_tr ?_ (Bel.out (by assumption)) | refine below_tr ?_ (Bel.out (ov_bel _ _)) | refine below_set ?_ (by simp; try omega))))).mono ?_; rintro e w' ⟨rfl, hb⟩; obtain ⟨hc, hf⟩ := bcell hb; have hz := hb.size; try simp at hz) | (go_at_call 15; refine (awake_any _).mono ?_; rintro e w' ⟨rfl, hb⟩; obtain ⟨hc, hf⟩ := bcell hb; have hz := hb.size; try simp at hz))
      go_ret
      exact ⟨rfl, by (repeat (first | exact Below.refl _ _ | (with_reducible exact Hid.out (by assumption)) | refine below_al ?_ _ | refine below_dr ?_ | refine below_tr ?_ (by assumption) | refine below_tr ?_ (Bel.out (by assumption)) | refine below_tr ?_ (Bel.out (ov_bel _ _)) | refine below_set ?_ (by simp; try omega)))⟩
  | false =>
    rw [hth] at HT
    obtain ⟨a0, c0, a1, c1, a2, c2, a3, c3⟩ := V
    simp only [vLnd] at *
    clear hr hth hx
    go_enter Tryz.func10, Tryz.ntmps10
    go_wp2_with (first | (go_at_call 14; refine (HT.out _ (by (repeat (first | exact Below.refl _ _ | (with_reducible exact Hid.out (by assumption)) | refine below_al ?_ _ | refine below_dr ?_ | refine below_tr ?_ (by assumption) | refine below_tr ?_ (Bel.out (by assumption)) | refine below_tr ?_ (Bel.out (ov_bel _ _)) | refine below_set ?_ (by simp; try omega))))).mono ?_; rintro e w' ⟨rfl, hb⟩; obtain ⟨hc, hf⟩ := bcell hb; have hz := hb.size; try simp at hz) | (go_at_call 15; refine (awake_any _).mono ?_; rintro e w' ⟨rfl, hb⟩; obtain ⟨hc, hf⟩ := bcell hb; have hz := hb.size; try simp at hz))
    go_ret
    exact ⟨rfl, by (repeat (first | exact Below.refl _ _ | (with_reducible exact Hid.out (by assumption)) | refine below_al ?_ _ | refine below_dr ?_ | refine below_tr ?_ (by assumption) | refine below_tr ?_ (Bel.out (by assumption)) | refine below_tr ?_ (Bel.out (ov_bel _ _)) | refine below_set ?_ (by simp; try omega)))⟩
end Go.Proofs.YtdfohielnfdmkaaGreat

/- For every input the law RelaySticks returns true, and the input reads as it did. No condition. -/
set_option linter.unusedVariables false
namespace Go.Proofs.YtdfohielnfdmkaaGreat
open Go.ChangeShapes Go.WideShapes Go.ChangeAt Go.RowKit Go.Deep

theorem cells_el_hop : Tryz.prog.cellsOf 112 = 3 := by kernel_rfl
theorem hopsRead : Tryz.prog.readableRec 86 = true := by kernel_rfl
theorem hopsRow : 86 < Tryz.prog.types.size := of_decide_eq_true (by kernel_rfl)
section
variable {H : Type} {enc : TypeId × Value → H} {w : World} {base : Nat} {spare : Nat → Bool} {held : Bool}
set_option maxRecDepth 100000 in
theorem el_hop {n : Nat} {cs : List Value} {y : DataW H × List MemPlace} (h : DataW.trod enc Tryz.prog w base spare held n 112 cs = some y) : ∃ x : Hp, cs = encHp x ∧ True := by
  obtain ⟨xs, m, _, _, hl, hlen, hf⟩ := DataW.trod_struct Tryz.underlying112 h
  rw [cells_el_hop] at hl
  match cs, hl, xs, hlen with
  | [c0, c1, c2], _, [y0, y1, y2], _ =>
    obtain ⟨n0, e0, _, _⟩ := DataW.trod_int Tryz.underlying3 (show DataW.trod enc Tryz.prog w base spare held m 3 [c0] = some y0 by have h0 := hf 0 _ rfl; simpa [cells_int] using h0)
    simp at e0
    obtain ⟨n1, e1, _, _⟩ := DataW.trod_int Tryz.underlying3 (show DataW.trod enc Tryz.prog w base spare held m 3 [c1] = some y1 by have h0 := hf 1 _ rfl; simpa [cells_int] using h0)
    simp at e1
    obtain ⟨n2, e2, _, _⟩ := DataW.trod_int Tryz.underlying3 (show DataW.trod enc Tryz.prog w base spare held m 3 [c2] = some y2 by have h0 := hf 2 _ rfl; simpa [cells_int] using h0)
    simp at e2
    subst e0 e1 e2
    exact ⟨⟨n0, n1, n2⟩, rfl, trivial⟩
set_option maxRecDepth 100000 in
/-- A list of hops that came in, opened. -/
theorem open_hops {r : Reach} {b0 : Nat} {v : Value} {d : DataW H} {p : List MemPlace} (hv : Value.okWide Tryz.prog w r b0 86 v) (h : DataW.Trod enc Tryz.prog w base spare held 86 v d p) :
    ∃ (A : Option Addr) (xs : List Hp) (c : Nat), v = .slice A xs.length c ∧ RowAt w A 3 encHp xs ∧ xs.length ≤ maxLen := by
  obtain ⟨a0, len, cap, rfl⟩ := okWide_slice Tryz.underlying86 hv
  obtain ⟨fuel, hf⟩ := h
  have hb : len ≤ maxLen := by
    rcases open_slice Tryz.underlying86 hf with ⟨e, _⟩ | ⟨a, l', c', m, n, D, Pl, e, _, hl, hm, _⟩
    · simp [Value.cells] at e; omega
    · simp [Value.cells] at e; omega
  obtain ⟨A, xs, c, e, hr, hle, _⟩ := open_rows (α := Hp) (en := encHp) (Ok := fun _ => True) Tryz.underlying86 cells_el_hop (fun _ => rfl) (by omega) (fun n cs' y h => el_hop h) hf
  simp [Value.cells] at e
  obtain ⟨rfl, rfl, rfl⟩ := e
  exact ⟨_, xs, _, rfl, hr, hb⟩
end

set_option maxRecDepth 100000 in
theorem sticks_lifted (os : Os) (started : os.Started) (H : Type) (enc : TypeId × Value → H) :
    ReturnsInHanded {} Tryz.checked os 10 .any (Rows.relaySticksSpec.pre6 enc Tryz.prog Tryz.f10 Rows.relaySticksRow.domain false) (Rows.relaySticksSpec.post enc Tryz.prog Tryz.f10 false true false false) := by
  refine returnsInHanded_of_change (C := Tryz.checked) own started (by kernel_rfl) Tryz.func10
    (ChangeSpec.witness6 (enc := enc) (C := Tryz.checked) false ⟨#[], #[.agg #[.slice none 0 0, .slice none 0 0, .slice none 0 0, .slice none 0 0], .int .i64 0, .int .i64 0, .slice none 0 0], []⟩ 8 (by kernel_rfl) (by kernel_rfl) (by kernel_rfl) (by kernel_rfl)) ?_
  intro W base args ds gs before hval0 hW hcnd _
  have hval : ∀ (j : Nat) t v, Tryz.f10.params[j]? = some t → args[j]? = some v → Value.okWide Tryz.prog W .any base t v := hval0
  have hW' := hW
  obtain ⟨p, q, hA0, hV, rfl, hfz, hnd⟩ := hW
  have hA : DataW.TrodAll enc Tryz.prog W 0 (fun _ => true) true Tryz.f10.params.toList args.toList ds p := hA0
  rw [Tryz.params10] at hA hval
  obtain ⟨v0, vs0, d0, ds0, p0, q0, hargs, rfl, rfl, h0, r0⟩ := trodAll_cons hA
  obtain ⟨v1, vs1, d1, ds1, p1, q1, rfl, rfl, rfl, h1, r1⟩ := trodAll_cons r0
  obtain ⟨v2, vs2, d2, ds2, p2, q2, rfl, rfl, rfl, h2, r2⟩ := trodAll_cons r1
  obtain ⟨v3, vs3, d3, ds3, p3, q3, rfl, rfl, rfl, h3, r3⟩ := trodAll_cons r2
  obtain ⟨rfl, rfl, rfl⟩ := trodAll_nil r3
  obtain rfl : args = #[v0, v1, v2, v3] := by cases args; simp_all
  obtain ⟨rfl, rfl⟩ := trodVars_none hV
  obtain ⟨V, L, rfl, hraw⟩ := open_land (hval 0 27 v0 rfl rfl) h0
  obtain ⟨a1, rfl, rfl, rfl, w1⟩ := open_int Tryz.underlying3 (hval 1 3 v1 rfl rfl) h1
  obtain ⟨a2, rfl, rfl, rfl, w2⟩ := open_int Tryz.underlying3 (hval 2 3 v2 rfl rfl) h2
  obtain ⟨A3, xs, c3, rfl, hrow, hmax⟩ := open_hops (hval 3 86 v3 rfl rfl) h3
  clear hA0 hval0
  simp only [List.append_nil] at hW'
  have hlt : ∀ x ∈ p0, x.block < W.heap.size := fun x hx => hW'.lt x (by simp [hx])
  have hlt3 : ∀ x ∈ p3, x.block < W.heap.size := fun x hx => hW'.lt x (by simp [hx])
  refine (sticksLaw_any V L a1 a2 A3 c3 xs W hraw hrow hmax).mono fun e W' ⟨he, hg⟩ => ?_
  subst he
  exact ⟨_, rfl, post_below (pa := p0 ++ ([] ++ ([] ++ (p3 ++ [])))) (pv := []) hW' (fun _ _ _ => (trodAll_cons_mk (shut_bool Tryz.underlying4 _) trodAll_mk0))
    (fun sp hsp => (trodAll_cons_mk (WideElems.Trod_stays laidOut landRead landRow h0 (sp' := sp) (fun x hx => hg.same (hlt x hx)) (fun x hx => hsp x (by simp [hx]))) (trodAll_cons_mk (shut_int Tryz.underlying3 w1) (trodAll_cons_mk (shut_int Tryz.underlying3 w2) (trodAll_cons_mk (WideElems.Trod_stays laidOut hopsRead hopsRow h3 (sp' := sp) (fun x hx => hg.same (hlt3 x hx)) (fun x hx => hsp x (by simp [hx]))) trodAll_mk0)))))
    (fun _ _ => rfl) (by simp) hg (ok_one (by kernel_rfl) rfl (okWide_bool_mk Tryz.underlying4 _))⟩

theorem sticks_over : Rows.relaySticksRow.holds Tryz.pinned (OpenSpec.ofChange Rows.relaySticksSpec) :=
  OpenClaim.holds_of_wide 10 Tryz.f10 rfl rfl rfl rfl rfl rfl rfl ⟨rfl, rfl, rfl, rfl, rfl⟩ rfl rfl rfl rfl rfl (by kernel_rfl) Tryz.func10 (by kernel_rfl)
    (of_decide_eq_true (by kernel_rfl)) (by unfold Func.isWrapper; first | (rw [if_pos (by decide +kernel)]; kernel_rfl) | (rw [if_neg (by decide +kernel)]; exact ⟨rfl, rfl⟩))
    (fun os started H enc _ => sticks_lifted os started H enc)

theorem sticks_proved : Rows.RelaySticksSaid := sticks_over
#print axioms sticks_proved
end Go.Proofs.YtdfohielnfdmkaaGreat

