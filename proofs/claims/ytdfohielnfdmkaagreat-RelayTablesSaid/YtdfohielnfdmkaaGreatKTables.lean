/- For every input the law RelayTables returns true, and the input reads as it did. No condition. -/
import Derived.Test.YtdfohielnfdmkaaGreatKV
import Derived.Test.YtdfohielnfdmkaaGreatKX
import Derived.Test.YtdfohielnfdmkaaGreatKR
set_option linter.unusedVariables false
set_option linter.unusedSimpArgs false
/- Walks: the law RelayTables. -/
set_option linter.unusedVariables false
set_option linter.unusedSimpArgs false
namespace Go.Proofs.YtdfohielnfdmkaaGreat
open Go.RowKit
attribute [local go_sem low] cell_alloc_ite frozen_alloc_ite ov_cell ov_frozen

theorem flat_ints2 (l : List Int) : l.flatMap encInt = l.map (fun n => .int .i64 n) := by induction l <;> simp_all [encInt]
/-- A list of ints anew. -/
theorem copy_ints (w : World) (l : List Int) (a : Addr) (c : Nat) (hr : RowAt w (some a) 1 encInt l) (hl : l.length ≤ 100) :
    ∃ v' W', (Builtin.append_ #[40, 40] 40 #[.slice none 0 0, .slice (some a) l.length c]).run Tryz.prog w = .ok v' W' ∧
      Below w.heap.size w W' ∧ ∃ A' c', v' = .slice A' l.length c' ∧ RowAt W' A' 1 encInt l ∧ l.length ≤ c' := by
  obtain ⟨i0, hi0, hz0, hz1, hz2⟩ := info_parts info_int
  have hown : w.ownsRow w.heap.size 3 1 (.slice none 0 0) 0 (([] : List Int).flatMap encInt) := World.ownsRow_nil _ _ _ _
  have hcells : ∀ j u, (l.flatMap encInt)[j]? = some u → w.cell? (a.add j) = some u := fun j u hj => by
    rw [flat_ints2, List.getElem?_map] at hj
    cases hx : l[j]? with
    | none => rw [hx] at hj; cases hj
    | some x =>
      rw [hx] at hj
      cases hj
      obtain ⟨b, o, hA, hc⟩ := hr.num hx
      cases hA
      by_cases e : j = 0
      · subst e; simpa [Addr.add] using hc
      · simpa [Addr.add, e] using hc
  obtain ⟨v', W', h1, h2, h3, _⟩ := run_append_own (P := Tryz.prog) w w.heap.size 40 40 3 i0 _ 1 8 Tryz.underlying40 hi0 hz0 hz1 hz2 rfl (by omega) _ 0 _ hown
      a l.length c (l.flatMap encInt) (by rw [flat_ints2]; simp) hcells (fun u hu => by rw [flat_ints2] at hu; obtain ⟨n, _, rfl⟩ := List.mem_map.1 hu; rfl) (by simp only [maxLen]; omega) (by omega) (by simp)
  rw [Nat.zero_add, List.flatMap_nil, List.nil_append] at h2
  obtain ⟨A', c', e, hrow, hle, _⟩ := row_of_owns (k := 1) (enc := encInt) (fun _ => rfl) h2
  exact ⟨v', W', h1, (Below.refl _ _).grown h3 (Nat.le_refl _) (fun k hk => by cases hk), A', c', e, hrow, hle⟩
theorem copy_none (c : Nat) (w : World) : (Builtin.append_ #[40, 40] 40 #[.slice none 0 0, .slice none 0 c]).run Tryz.prog w = .ok (.slice none 0 0) w := by kernel_rfl
set_option maxRecDepth 100000 in
theorem llist_any (A : Option Addr) (c : Nat) (xs : List Int) (w : World) (hx : RowAt w A 1 encInt xs) (lx : xs.length ≤ 100) :
    Calls Tryz.prog 42 #[.slice A xs.length c] w fun e w' => ∃ A' c', e = .returned (.slice A' xs.length c') ∧ RowAt w' A' 1 encInt xs ∧ xs.length ≤ c' ∧ Below w.heap.size w w' := by
  cases A with
  | none =>
    obtain rfl : xs = [] := by
      cases xs with
      | nil => rfl
      | cons x xs => obtain ⟨b, o, hA, _⟩ := hx 0 x rfl; cases hA
    clear hx
    have he := copy_none c w
    go_enter Tryz.func42, Tryz.ntmps42
    go_wp2_with (at_builtin; refine wpList_append_run _ rfl _ _ 40 rfl _ _ rfl rfl _ _ he ?_)
    go_ret
    exact ⟨none, 0, rfl, RowAt.nil _ _ _ _, Nat.zero_le _, Below.refl _ _⟩
  | some a =>
    obtain ⟨v', W', hap, hbW, A', c', rfl, hrow, hle⟩ := copy_ints w xs a c hx lx
    replace hrow := Lib.hid hrow
    clear hx
    go_enter Tryz.func42, Tryz.ntmps42
    go_wp2_with (at_builtin; refine wpList_append_run _ rfl _ _ 40 rfl _ _ rfl rfl _ _ hap ?_)
    go_ret
    exact ⟨A', c', rfl, hrow.out, hle, hbW⟩

set_option maxRecDepth 100000 in
set_option maxHeartbeats 8000000 in
theorem tablesLaw_thin (V : LV) (L : Lnd) (f s k : Int) (A : Option Addr) (c : Nat) (xs : List Int) (w : World) (hr : RdL w V L) (hth : thinB L = true) (hx : RowAt w A 1 encInt xs) (lx : xs.length ≤ 9) :
    Calls Tryz.prog 7 #[vLnd V L, .int .i64 f, .int .i64 s, .int .i64 k, .slice A xs.length c] w fun e w' => e = .returned (.bool true) ∧ Below w.heap.size w w' := by
  have hraw : RawL w V L := ⟨hr.st, hr.ri, fun i l hl => by obtain ⟨b, o, A', c', h1, h2, h3, _, h4⟩ := hr.ca i l hl; exact ⟨b, o, A', c', h1, h2, h3, h4⟩, hr.su, hr.k0, hr.k1, hr.k2, hr.k3⟩
  have HT := Lib.hid (fun W (hW : Below w.heap.size w W) => by have h := thin_any V L W ⟨hraw.st.kept (kept_of_below hW), hraw.ri.kept (kept_of_below hW), hraw.ca.kept (kept_of_below hW), hraw.su.kept (kept_of_below hW), hraw.k0, hraw.k1, hraw.k2, hraw.k3⟩; rw [hth] at h; exact h)
  have HL := Lib.hid (fun W (hW : Below w.heap.size w W) => landB_any V L w W hr hW)
  have HA := Lib.hid (fun f t s k W (hW : Below w.heap.size w W) => lasked_any V L f t s k W (hr.below hW))
  have HC := Lib.hid (fun W (hW : Below w.heap.size w W) => llist_any A c xs W (hx.kept (kept_of_below hW)) (by omega))
  have HP := Lib.hid (fun (f s k : Nat) W (hW : Below w.heap.size w W) (ok : Okay L) (lf : f < L.st.length) (lk : k < L.ca.length) => rproves_any V L f s k A c xs W (hr.below hW) ok lf lk (hx.kept (kept_of_below hW)) (by omega))
  have l0 := hr.l0
  have l3 := hr.l3
  obtain ⟨a0, c0, a1, c1, a2, c2, a3, c3⟩ := V
  simp only [vLnd] at *
  clear hr hraw hth hx
  go_enter Tryz.func7, Tryz.ntmps7
  go_wp2_with fail
  generalize hA : w.alloc (.cells #[.slice a0 L.st.length c0, .slice a1 L.ri.length c1, .slice a2 L.ca.length c2, .slice a3 L.su.length c3] 27) = wA
  have hBA : Below w.heap.size w wA := by subst hA; (repeat (first | exact Below.refl _ _ | (with_reducible exact Hid.out (by assumption)) | refine below_al ?_ _ | refine below_dr ?_ | refine below_tr ?_ (by assumption) | refine below_tr ?_ (Bel.out (by assumption)) | refine below_tr ?_ (Bel.out (ov_bel _ _)) | refine below_set ?_ (by simp; try omega)))
  have hbox : CellsAt wA w.heap.size [.slice a0 L.st.length c0, .slice a1 L.ri.length c1, .slice a2 L.ca.length c2, .slice a3 L.su.length c3] := by subst hA; exact cells4 (by (try go_simp); (repeat (simp only [↓IntWalk.iteOmega]; (try go_simp))); (try omega)) (by (try go_simp); (repeat (simp only [↓IntWalk.iteOmega]; (try go_simp))); (try omega)) (by (try go_simp); (repeat (simp only [↓IntWalk.iteOmega]; (try go_simp))); (try omega)) (by (try go_simp); (repeat (simp only [↓IntWalk.iteOmega]; (try go_simp))); (try omega))
  clear hA
  replace hBA := Lib.hid hBA
  replace hbox := Lib.hid hbox
  refine (HT.out _ hBA.out).mono ?_
  rintro e w1 ⟨rfl, hb1⟩
  have x0 := (kept_of_below hb1) _ _ (hbox.out 0 _ rfl)
  have x1 := (kept_of_below hb1) _ _ (hbox.out 1 _ rfl)
  have x2 := (kept_of_below hb1) _ _ (hbox.out 2 _ rfl)
  have x3 := (kept_of_below hb1) _ _ (hbox.out 3 _ rfl)
  replace hb1 := Lib.hid hb1
  go_wp2_with fail
  refine (HL.out _ (below_tr hBA.out hb1.out)).mono ?_
  rintro e w2 ⟨V1, rfl, hr1, hb2⟩
  clear x0 x1 x2 x3
  have hb2' := Lib.hid (below_tr hb1.out hb2)
  replace hr1 := Lib.hid hr1
  clear hb1 hb2
  go_wp2_with fail
  refine (HC.out _ (below_tr hBA.out hb2'.out)).mono ?_
  rintro e w3 ⟨A3, c3', rfl, hrow3, hc3, hb3⟩
  have hb3' := Lib.hid (below_tr hb2'.out hb3)
  replace hr1 := Lib.hid (hr1.out.below hb3)
  replace hrow3 := Lib.hid hrow3
  clear hb2' hb3 hc3
  go_wp2_with fail
  refine (proveTable_any V1 L f s k A3 c3' xs w3 hr1.out hrow3.out (by omega)).mono ?_
  rintro e w4 ⟨r, hir, rfl, hb4⟩
  have hb4' := below_tr hb3'.out hb4
  clear hb3' hb4 hrow3 hr1
  have x0 := (kept_of_below hb4') _ _ (hbox.out 0 _ rfl)
  have x1 := (kept_of_below hb4') _ _ (hbox.out 1 _ rfl)
  have x2 := (kept_of_below hb4') _ _ (hbox.out 2 _ rfl)
  have x3 := (kept_of_below hb4') _ _ (hbox.out 3 _ rfl)
  replace hb4' := Lib.hid hb4'
  replace hir := Lib.hid hir
  go_wp2_with fail
  refine (HA.out _ _ _ _ _ (below_tr hBA.out hb4'.out)).mono ?_
  rw [openE_dup]
  obtain ⟨ea, hea⟩ : ∃ ea, ea = openE L [f] [s] k := ⟨_, rfl⟩
  rw [← hea]
  rintro e w5 ⟨rfl, hb5⟩
  have hb5' := below_tr hb4'.out hb5
  replace hea := Lib.hid hea
  clear hb4' hb5 x0 x1 x2 x3
  have x0 := (kept_of_below hb5') _ _ (hbox.out 0 _ rfl)
  have x1 := (kept_of_below hb5') _ _ (hbox.out 1 _ rfl)
  have x2 := (kept_of_below hb5') _ _ (hbox.out 2 _ rfl)
  have x3 := (kept_of_below hb5') _ _ (hbox.out 3 _ rfl)
  have hBw : Hid (Below w.heap.size w w5) := Lib.hid (below_tr hBA.out hb5')
  replace hb5' := Lib.hid hb5'
  clear HT HL HA HC
  cases hdec : (ea == 0) with
  | false =>
    have hrf : r = false := by
      cases r with
      | false => rfl
      | true =>
        have h0 := (hir.out.1 rfl).1
        rw [← hea.out] at h0
        rw [h0] at hdec
        simp at hdec
    subst hrf
    clear hir HP
    go_wp2_with fail
    refine (awake_any _).mono ?_
    rintro e w6 ⟨rfl, hb6⟩
    replace hb6 := Lib.hid hb6
    go_wp2_with fail
    go_ret
    exact ⟨rfl, below_tr hBw.out hb6.out⟩
  | true =>
    obtain rfl : ea = 0 := by simpa using hdec
    have h1 := hea.out.symm
    obtain ⟨hf, hst, hti, k0, k1⟩ := openE_zero h1
    have ok := okay_of hf
    obtain ⟨f0, f1⟩ := hst f (by simp)
    obtain ⟨f, rfl⟩ := Int.eq_ofNat_of_zero_le f0
    obtain ⟨s0, s1⟩ := hti s (by simp)
    obtain ⟨s, rfl⟩ := Int.eq_ofNat_of_zero_le s0
    obtain ⟨k, rfl⟩ := Int.eq_ofNat_of_zero_le k0
    replace HP := Lib.hid (fun W hW => HP.out f s k W hW ok (by omega) (by omega))
    have hiff : Hid (PrTab L f s k xs ↔ RPr L f s k xs) := Lib.hid ⟨fun h => h.2, fun h => ⟨h1, h⟩⟩
    clear hf hst hti ok hea h1
    go_wp2_with fail
    refine (HP.out _ hBw.out).mono ?_
    rintro e w6 ⟨r2, hir2, rfl, hb6⟩
    have hrr : r2 = r := by
      have := hir.out.trans (hiff.out.trans hir2.symm)
      cases r <;> cases r2 <;> simp_all
    subst hrr
    replace hb6 := Lib.hid hb6
    clear hir hir2 hiff HP x0 x1 x2 x3
    cases r2 with
    | true =>
      go_wp2_with fail
      refine (awake_any _).mono ?_
      rintro e w7 ⟨rfl, hb7⟩
      replace hb7 := Lib.hid hb7
      go_wp2_with fail
      go_ret
      exact ⟨rfl, below_tr hBw.out (below_tr hb6.out hb7.out)⟩
    | false =>
      go_wp2_with fail
      refine (awake_any _).mono ?_
      rintro e w7 ⟨rfl, hb7⟩
      replace hb7 := Lib.hid hb7
      go_wp2_with fail
      go_ret
      exact ⟨rfl, below_tr hBw.out (below_tr hb6.out hb7.out)⟩

set_option maxRecDepth 100000 in
set_option maxHeartbeats 8000000 in
theorem tablesLaw_any (V : LV) (L : Lnd) (f s k : Int) (A : Option Addr) (c : Nat) (xs : List Int) (w : World) (hr : RawL w V L) (hx : RowAt w A 1 encInt xs) (hm : xs.length ≤ maxLen) :
    Calls Tryz.prog 7 #[vLnd V L, .int .i64 f, .int .i64 s, .int .i64 k, .slice A xs.length c] w fun e w' => e = .returned (.bool true) ∧ Below w.heap.size w w' := by
  unfold maxLen at hm
  have HT := Lib.hid (fun W (hW : Below w.heap.size w W) => thin_any V L W ⟨hr.st.kept (kept_of_below hW), hr.ri.kept (kept_of_below hW), hr.ca.kept (kept_of_below hW), hr.su.kept (kept_of_below hW), hr.k0, hr.k1, hr.k2, hr.k3⟩)
  cases hth : thinB L with
  | true =>
    by_cases h9 : xs.length ≤ 9
    · exact tablesLaw_thin V L f s k A c xs w (hr.thin hth) hth hx h9
    · rw [hth] at HT
      obtain ⟨a0, c0, a1, c1, a2, c2, a3, c3⟩ := V
      simp only [vLnd] at *
      clear hr hth hx
      go_enter Tryz.func7, Tryz.ntmps7
      go_wp2_with (first | (go_at_call 14; refine (HT.out _ (by (repeat (first | exact Below.refl _ _ | (with_reducible exact Hid.out (by assumption)) | refine below_al ?_ _ | refine below_dr ?_ | refine below_tr ?_ (by assumption) | refine below_tr ?_ (Bel.out (by assumption)) | refine below_tr ?_ (Bel.out (ov_bel _ _)) | refine below_set ?_ (by simp; try omega))))).mono ?_; rintro e w' ⟨rfl, hb⟩; obtain ⟨hc, hf⟩ := bcell hb; have hz := hb.size; try simp at hz) | (go_at_call 15; refine (awake_any _).mono ?_; rintro e w' ⟨rfl, hb⟩; obtain ⟨hc, hf⟩ := bcell hb; have hz := hb.size; try simp at hz))
      go_ret
      exact ⟨rfl, by (repeat (first | exact Below.refl _ _ | (with_reducible exact Hid.out (by assumption)) | refine below_al ?_ _ | refine below_dr ?_ | refine below_tr ?_ (by assumption) | refine below_tr ?_ (Bel.out (by assumption)) | refine below_tr ?_ (Bel.out (ov_bel _ _)) | refine below_set ?_ (by simp; try omega)))⟩
  | false =>
    rw [hth] at HT
    obtain ⟨a0, c0, a1, c1, a2, c2, a3, c3⟩ := V
    simp only [vLnd] at *
    clear hr hth hx
    go_enter Tryz.func7, Tryz.ntmps7
    go_wp2_with (first | (go_at_call 14; refine (HT.out _ (by (repeat (first | exact Below.refl _ _ | (with_reducible exact Hid.out (by assumption)) | refine below_al ?_ _ | refine below_dr ?_ | refine below_tr ?_ (by assumption) | refine below_tr ?_ (Bel.out (by assumption)) | refine below_tr ?_ (Bel.out (ov_bel _ _)) | refine below_set ?_ (by simp; try omega))))).mono ?_; rintro e w' ⟨rfl, hb⟩; obtain ⟨hc, hf⟩ := bcell hb; have hz := hb.size; try simp at hz) | (go_at_call 15; refine (awake_any _).mono ?_; rintro e w' ⟨rfl, hb⟩; obtain ⟨hc, hf⟩ := bcell hb; have hz := hb.size; try simp at hz))
    go_ret
    exact ⟨rfl, by (repeat (first | exact Below.refl _ _ | (with_reducible exact Hid.out (by assumption)) | refine below_al ?_ _ | refine below_dr ?_ | refine below_tr ?_ (by assumption) | refine below_tr ?_ (Bel.out (by assumption)) | refine below_tr ?_ (Bel.out (ov_bel _ _)) | refine below_set ?_ (by simp; try omega)))⟩
end Go.Proofs.YtdfohielnfdmkaaGreat

/- For every input the law RelayTables returns true, and the input reads as it did. No condition. -/
set_option linter.unusedVariables false
namespace Go.Proofs.YtdfohielnfdmkaaGreat
open Go.ChangeShapes Go.WideShapes Go.ChangeAt Go.RowKit Go.Deep

theorem cells_el_int : Tryz.prog.cellsOf 3 = 1 := by kernel_rfl
theorem intsRead : Tryz.prog.readableRec 40 = true := by kernel_rfl
theorem intsRow : 40 < Tryz.prog.types.size := of_decide_eq_true (by kernel_rfl)
section
variable {H : Type} {enc : TypeId × Value → H} {w : World} {base : Nat} {spare : Nat → Bool} {held : Bool}
set_option maxRecDepth 100000 in
theorem el_int {n : Nat} {cs : List Value} {y : DataW H × List MemPlace} (h : DataW.trod enc Tryz.prog w base spare held n 3 cs = some y) : ∃ x : Int, cs = encInt x ∧ True := by
  obtain ⟨n0, e0, _, _⟩ := DataW.trod_int Tryz.underlying3 h
  exact ⟨n0, e0, trivial⟩
set_option maxRecDepth 100000 in
/-- A list of ints that came in, opened. -/
theorem open_ints {r : Reach} {b0 : Nat} {v : Value} {d : DataW H} {p : List MemPlace} (hv : Value.okWide Tryz.prog w r b0 40 v) (h : DataW.Trod enc Tryz.prog w base spare held 40 v d p) :
    ∃ (A : Option Addr) (xs : List Int) (c : Nat), v = .slice A xs.length c ∧ RowAt w A 1 encInt xs ∧ xs.length ≤ maxLen := by
  obtain ⟨a0, len, cap, rfl⟩ := okWide_slice Tryz.underlying40 hv
  obtain ⟨fuel, hf⟩ := h
  have hb : len ≤ maxLen := by
    rcases open_slice Tryz.underlying40 hf with ⟨e, _⟩ | ⟨a, l', c', m, n, D, Pl, e, _, hl, hm, _⟩
    · simp [Value.cells] at e; omega
    · simp [Value.cells] at e; omega
  obtain ⟨A, xs, c, e, hr, hle, _⟩ := open_rows (α := Int) (en := encInt) (Ok := fun _ => True) Tryz.underlying40 cells_el_int (fun _ => rfl) (by omega) (fun n cs' y h => el_int h) hf
  simp [Value.cells] at e
  obtain ⟨rfl, rfl, rfl⟩ := e
  exact ⟨_, xs, _, rfl, hr, hb⟩
end

set_option maxRecDepth 100000 in
theorem tables_lifted (os : Os) (started : os.Started) (H : Type) (enc : TypeId × Value → H) :
    ReturnsInHanded {} Tryz.checked os 7 .any (Rows.relayTablesSpec.pre6 enc Tryz.prog Tryz.f7 Rows.relayTablesRow.domain false) (Rows.relayTablesSpec.post enc Tryz.prog Tryz.f7 false true false false) := by
  refine returnsInHanded_of_change (C := Tryz.checked) own started (by kernel_rfl) Tryz.func7
    (ChangeSpec.witness6 (enc := enc) (C := Tryz.checked) false ⟨#[], #[.agg #[.slice none 0 0, .slice none 0 0, .slice none 0 0, .slice none 0 0], .int .i64 0, .int .i64 0, .int .i64 0, .slice none 0 0], []⟩ 8 (by kernel_rfl) (by kernel_rfl) (by kernel_rfl) (by kernel_rfl)) ?_
  intro W base args ds gs before hval0 hW hcnd _
  have hval : ∀ (j : Nat) t v, Tryz.f7.params[j]? = some t → args[j]? = some v → Value.okWide Tryz.prog W .any base t v := hval0
  have hW' := hW
  obtain ⟨p, q, hA0, hV, rfl, hfz, hnd⟩ := hW
  have hA : DataW.TrodAll enc Tryz.prog W 0 (fun _ => true) true Tryz.f7.params.toList args.toList ds p := hA0
  rw [Tryz.params7] at hA hval
  obtain ⟨v0, vs0, d0, ds0, p0, q0, hargs, rfl, rfl, h0, r0⟩ := trodAll_cons hA
  obtain ⟨v1, vs1, d1, ds1, p1, q1, rfl, rfl, rfl, h1, r1⟩ := trodAll_cons r0
  obtain ⟨v2, vs2, d2, ds2, p2, q2, rfl, rfl, rfl, h2, r2⟩ := trodAll_cons r1
  obtain ⟨v3, vs3, d3, ds3, p3, q3, rfl, rfl, rfl, h3, r3⟩ := trodAll_cons r2
  obtain ⟨v4, vs4, d4, ds4, p4, q4, rfl, rfl, rfl, h4, r4⟩ := trodAll_cons r3
  obtain ⟨rfl, rfl, rfl⟩ := trodAll_nil r4
  obtain rfl : args = #[v0, v1, v2, v3, v4] := by cases args; simp_all
  obtain ⟨rfl, rfl⟩ := trodVars_none hV
  obtain ⟨V, L, rfl, hraw⟩ := open_land (hval 0 27 v0 rfl rfl) h0
  obtain ⟨a1, rfl, rfl, rfl, w1⟩ := open_int Tryz.underlying3 (hval 1 3 v1 rfl rfl) h1
  obtain ⟨a2, rfl, rfl, rfl, w2⟩ := open_int Tryz.underlying3 (hval 2 3 v2 rfl rfl) h2
  obtain ⟨a3, rfl, rfl, rfl, w3⟩ := open_int Tryz.underlying3 (hval 3 3 v3 rfl rfl) h3
  obtain ⟨A3, xs, c3, rfl, hrow, hmax⟩ := open_ints (hval 4 40 v4 rfl rfl) h4
  clear hA0 hval0
  simp only [List.append_nil] at hW'
  have hlt : ∀ x ∈ p0, x.block < W.heap.size := fun x hx => hW'.lt x (by simp [hx])
  have hlt3 : ∀ x ∈ p4, x.block < W.heap.size := fun x hx => hW'.lt x (by simp [hx])
  refine (tablesLaw_any V L a1 a2 a3 A3 c3 xs W hraw hrow hmax).mono fun e W' ⟨he, hg⟩ => ?_
  subst he
  exact ⟨_, rfl, post_below (pa := p0 ++ ([] ++ ([] ++ ([] ++ (p4 ++ []))))) (pv := []) hW' (fun _ _ _ => (trodAll_cons_mk (shut_bool Tryz.underlying4 _) trodAll_mk0))
    (fun sp hsp => (trodAll_cons_mk (WideElems.Trod_stays laidOut landRead landRow h0 (sp' := sp) (fun x hx => hg.same (hlt x hx)) (fun x hx => hsp x (by simp [hx]))) (trodAll_cons_mk (shut_int Tryz.underlying3 w1) (trodAll_cons_mk (shut_int Tryz.underlying3 w2) (trodAll_cons_mk (shut_int Tryz.underlying3 w3) (trodAll_cons_mk (WideElems.Trod_stays laidOut intsRead intsRow h4 (sp' := sp) (fun x hx => hg.same (hlt3 x hx)) (fun x hx => hsp x (by simp [hx]))) trodAll_mk0))))))
    (fun _ _ => rfl) (by simp) hg (ok_one (by kernel_rfl) rfl (okWide_bool_mk Tryz.underlying4 _))⟩

theorem tables_over : Rows.relayTablesRow.holds Tryz.pinned (OpenSpec.ofChange Rows.relayTablesSpec) :=
  OpenClaim.holds_of_wide 7 Tryz.f7 rfl rfl rfl rfl rfl rfl rfl ⟨rfl, rfl, rfl, rfl, rfl⟩ rfl rfl rfl rfl rfl (by kernel_rfl) Tryz.func7 (by kernel_rfl)
    (of_decide_eq_true (by kernel_rfl)) (by unfold Func.isWrapper; first | (rw [if_pos (by decide +kernel)]; kernel_rfl) | (rw [if_neg (by decide +kernel)]; exact ⟨rfl, rfl⟩))
    (fun os started H enc _ => tables_lifted os started H enc)

theorem tables_proved : Rows.RelayTablesSaid := tables_over
#print axioms tables_proved
end Go.Proofs.YtdfohielnfdmkaaGreat

