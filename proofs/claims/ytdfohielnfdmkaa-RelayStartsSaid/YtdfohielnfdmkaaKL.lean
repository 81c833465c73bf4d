/- Part KL of the proof: R9 · R10 · R11 · R12. -/
import Derived.Test.YtdfohielnfdmkaaKK
set_option linter.unusedVariables false
set_option linter.unusedSimpArgs false
/- Walks: package relay: Earliest, Stuck. -/
set_option linter.unusedVariables false
set_option linter.unusedSimpArgs false
namespace Go.Proofs.Ytdfohielnfdmkaa
open Go.RowKit
attribute [local go_sem low] cell_alloc_ite frozen_alloc_ite ov_cell ov_frozen cell_alloc_map frozen_alloc_map

/-- An hour, or None. -/
def hourOr (E x : Nat) : Int := if E < x then -1 else x
/-- The earliest hours of all stations, and the error. -/
noncomputable def earlR (L : Lnd) (f s k : Int) : List Int × Int :=
  if openE L [f] [s] k ≠ 0 then ([], openE L [f] [s] k) else ((List.range L.st.length).map fun b => hourOr L.su.length (eT L (-1) f.toNat s.toNat k.toNat b), 0)
/-- A list of ints and an error are handed back. -/
def ListTop (r : List Int × Int) (w : World) (e : Ending) (w' : World) : Prop :=
  ∃ A c, e = .returned (.tuple #[.slice A r.1.length c, .int .i64 r.2]) ∧ RowAt w' A 1 encInt r.1 ∧ r.1.length ≤ c ∧ Below w.heap.size w w'
theorem map_range_len {α : Type} (f : Nat → α) (m : Nat) : ((List.range m).map f).length = m := by simp
theorem hourOr_bd (E x : Nat) (h : x ≤ E + 1) : -1 ≤ hourOr E x ∧ hourOr E x ≤ E := by unfold hourOr; split <;> omega

theorem len_hours : Try.prog.arrayLen 87 = 6 := by kernel_rfl
theorem und_hours : Try.prog.underlying 87 = some (.array (Try.prog.arrayLen 87) (Try.prog.elem 87)) := by kernel_rfl
theorem size_hours (w : World) : (sizeOf (Try.prog.elem 87)).run Try.prog w = .ok 1 w := by kernel_rfl
theorem slice_six (b n : Nat) (hn : n ≤ 6) (w : World) : (Instr.sliceAt 87 (.pointer (some ⟨b, 0, none⟩)) none (some (.int .i64 n)) none).run Try.prog w = .ok (.slice (some ⟨b, 0, none⟩) n 6) w := by
  rw [run_sliceAt_array_h w _ _ und_hours .i64 n (by omega) (by rw [len_hours]; omega), size_hours, len_hours]
  simp [slicedAt, Result.andThen, Addr.add]

set_option maxRecDepth 100000 in
set_option maxHeartbeats 4000000 in
theorem earliestTop_any (V : LV) (L : Lnd) (f s k : Int) (w : World) (hr : RdL w V L) :
    Calls Try.prog 16 #[vLnd V L, .int .i64 f, .int .i64 s, .int .i64 k] w (ListTop (earlR L f s k) w) := by
  cases he : (openE L [f] [s] k != 0) with
  | true =>
    have HO := Lib.hid (fun W b1 b2 (hW : Below w.heap.size w W) h0 h2 => open11_err V L f s k b1 b2 W (hr.below hW) h0 h2 he)
    have HS : Hid (earlR L f s k = ([], openE L [f] [s] k)) := Lib.hid (by unfold earlR; rw [if_pos (by simpa using he)])
    clear hr
    go_enter Try.func16, Try.ntmps16
    go_wp2_with (go_at_call 27; refine (HO.out _ (w.heap.size + 1) (w.heap.size + 1 + 1) (by (repeat (first | exact Below.refl _ _ | (with_reducible exact Hid.out (by assumption)) | refine below_al ?_ _ | refine below_dr ?_ | refine below_tr ?_ (by assumption) | refine below_tr ?_ (Bel.out (by assumption)) | refine below_tr ?_ (Bel.out (ov_bel _ _)) | refine below_set ?_ (by simp; try omega)))) (by (try go_simp); (repeat (simp only [↓IntWalk.iteOmega]; (try go_simp))); (try omega)) (by (try go_simp); (repeat (simp only [↓IntWalk.iteOmega]; (try go_simp))); (try omega))).mono ?_; rintro e w' ⟨rfl, hb⟩; obtain ⟨hc, hf⟩ := bcell hb; have hz := hb.size; try simp at hz)
    go_ret2
    exact ⟨none, 0, by rw [HS.out]; rfl, by rw [HS.out]; exact RowAt.nil _ _ _ _, by rw [HS.out]; simp, by (repeat (first | exact Below.refl _ _ | (with_reducible exact Hid.out (by assumption)) | refine below_al ?_ _ | refine below_dr ?_ | refine below_tr ?_ (by assumption) | refine below_tr ?_ (Bel.out (by assumption)) | refine below_tr ?_ (Bel.out (ov_bel _ _)) | refine below_set ?_ (by simp; try omega)))⟩
  | false =>
    have he0 : openE L [f] [s] k = 0 := by simpa using he
    have HO := Lib.hid (fun W b1 b2 (hW : Below w.heap.size w W) h0 h2 => open11_ok V L f s k b1 b2 W (hr.below hW) h0 h2 he0)
    obtain ⟨hf, hst, hti, k0, k1⟩ := openE_zero he0
    obtain ⟨f0, f1⟩ := hst f (by simp)
    obtain ⟨s0, s1⟩ := hti s (by simp)
    obtain ⟨f', rfl⟩ := Int.eq_ofNat_of_zero_le f0
    obtain ⟨s', rfl⟩ := Int.eq_ofNat_of_zero_le s0
    obtain ⟨k', rfl⟩ := Int.eq_ofNat_of_zero_le k0
    have ok := okay_of hf
    have hu1 := ok.u1
    have hs1 := ok.s1
    have hl3 := hr.l3
    have HSU := Lib.hid (fun p kb kc rs (W : World) (hw : RW W p kb kc V L rs) (hm : RM W L rs) => earliest_any p kb kc V L rs f' s' k' (-1) W hw hm ok (by omega) (by omega) (by omega))
    have HS : Hid (earlR L f' s' k' = ((List.range L.st.length).map fun b => hourOr L.su.length (eT L (-1) f' s' k' b), 0)) := Lib.hid (by
      unfold earlR; rw [if_neg (by simpa using he0)]; rfl)
    have hsE : s' ≤ L.su.length := by omega
    clear he he0 hr hst hti ok f0 k0 s0 hf
    obtain ⟨i0, hi0, hz0, hz1, hz2⟩ := info_parts info_int
    go_enter Try.func16, Try.ntmps16
    go_wp2_with fail
    refine (HO.out _ (w.heap.size + 1) (w.heap.size + 1 + 1) (by (repeat (first | exact Below.refl _ _ | (with_reducible exact Hid.out (by assumption)) | refine below_al ?_ _ | refine below_dr ?_ | refine below_tr ?_ (by assumption) | refine below_tr ?_ (Bel.out (by assumption)) | refine below_tr ?_ (Bel.out (ov_bel _ _)) | refine below_set ?_ (by simp; try omega)))) (by (try go_simp); (repeat (simp only [↓IntWalk.iteOmega]; (try go_simp))); (try omega)) (by (try go_simp); (repeat (simp only [↓IntWalk.iteOmega]; (try go_simp))); (try omega))).mono ?_
    rintro e w1 ⟨p, kb, kc, rs, rfl, hb, hrw, hmap⟩
    have hrm := rm_new (L := L) (fun k hk => (hmap k hk).2)
    have hc := (bcell hb).1
    have x0 : w1.cell? ⟨w.heap.size, 0, none⟩ = some (.slice V.a0 L.st.length V.c0) := (by (try go_simp); (repeat (simp only [↓IntWalk.iteOmega]; (try go_simp))); (try omega))
    have hB := Lib.hid (show Below w.heap.size w w1 by (repeat (first | exact Below.refl _ _ | (with_reducible exact Hid.out (by assumption)) | refine below_al ?_ _ | refine below_dr ?_ | refine below_tr ?_ (by assumption) | refine below_tr ?_ (Bel.out (by assumption)) | refine below_tr ?_ (Bel.out (ov_bel _ _)) | refine below_set ?_ (by simp; try omega))))
    have hge := Lib.hid (fun k hk => (hmap k hk).1)
    replace hrw := Lib.hid hrw
    replace hrm := Lib.hid hrm
    clear hmap hb hc
    go_wp2_with fail
    refine (HSU.out p kb kc rs w1 hrw.out hrm.out).mono ?_
    rintro e w2 ⟨T, rfl, htab, hkm, hrm2⟩
    have HT : Hid (∀ b, b < L.st.length → T b = eT L (-1) f' s' k' b) := Lib.hid (fun b hb => tab_eq hsE htab hb)
    have HTb : Hid (∀ b, b < L.st.length → T b ≤ L.su.length + 1) := Lib.hid (fun b hb => htab.hi b hb)
    have y0 := hkm.kept _ _ x0
    have hlt := cell_lt y0
    simp only at hlt
    have hcells := (hrw.out.keep hkm).cells
    have hBw : Below w.heap.size w w2 := KeepM.below hB.out hkm (fun i ⟨k, hk, e⟩ => by subst e; have := hge.out k hk; simp at this; omega)
    have hsix := six_alloc w2 87 T
    have HC := Lib.hid hcells
    replace hBw := Lib.hid hBw
    replace hsix := Lib.hid hsix
    clear htab hkm hrm2 x0 hB hrw hrm hge HO HSU hcells
    have hsl := slice_six w2.heap.size L.st.length hs1
    go_wp2
    clear hsl
    obtain ⟨W0, hW0⟩ : ∃ W0, W0 = w2.alloc (.cells #[.int .i64 (T 0), .int .i64 (T 1), .int .i64 (T 2), .int .i64 (T 3), .int .i64 (T 4), .int .i64 (T 5)] 87) := ⟨_, rfl⟩
    rw [← hW0] at hsix ⊢
    have hB0 : Below w2.heap.size w2 W0 := by rw [hW0]; (repeat (first | exact Below.refl _ _ | (with_reducible exact Hid.out (by assumption)) | refine below_al ?_ _ | refine below_dr ?_ | refine below_tr ?_ (by assumption) | refine below_tr ?_ (Bel.out (by assumption)) | refine below_tr ?_ (Bel.out (ov_bel _ _)) | refine below_set ?_ (by simp; try omega)))
    have hz0' : W0.heap.size = w2.heap.size + 1 := by rw [hW0]; simp
    have HC0 := Lib.hid (HC.out.kept (kept_of_below hB0))
    replace hB0 := Lib.hid hB0
    clear y0 hW0 HC
    go_loopw [39, 12] (fun i v wr => ∃ j : Nat, j ≤ L.st.length ∧ i = .int .i64 j ∧ wr.ownsRow W0.heap.size 3 1 v ((List.range j).map fun b => hourOr L.su.length (T b)).length (((List.range j).map fun b => hourOr L.su.length (T b)).map (Value.int .i64)) ∧ Below W0.heap.size W0 wr) (fun i _ _ => L.st.length - (intOf i).toNat)
    case atStart => exact ⟨0, Nat.zero_le _, rfl, World.ownsRow_nil _ _ _ _, Below.refl _ _⟩
    case round =>
      obtain ⟨j, hj, rfl, hown, hB⟩ := hrel
      by_cases hlt2 : j < L.st.length
      · have xj := kept_of_below hB _ _ (hsix.out.c j (by omega))
        have hjb := HTb.out j hlt2
        have HE := Lib.hid (end_any p V L wr (HC0.out.kept (kept_of_below hB)) hl3)
        have hsz := hB.size
        have hlo := Lib.hid hown.lt
        replace hown := Lib.hid hown
        replace hB := Lib.hid hB
        have hsn : Hid (∀ v : Int, hourOr L.su.length (T j) = v → ((List.range (j + 1)).map fun b => hourOr L.su.length (T b)) = ((List.range j).map fun b => hourOr L.su.length (T b)) ++ [v]) := Lib.hid (fun v hv => by rw [List.range_succ, List.map_append, ← hv]; rfl)
        have hln := map_range_len (fun b => hourOr L.su.length (T b)) j
        replace hln := Lib.hid hln
        cases hcmp : decide (L.su.length < T j) with
        | true =>
          have hv : Hid (hourOr L.su.length (T j) = -1) := Lib.hid (by unfold hourOr; rw [if_pos (by simpa using hcmp)])
          go_wp2_with (first | (go_at_call 31; refine (HE.out).mono ?_; rintro e w' ⟨rfl, rfl⟩) | (at_builtin; refine wpList_append_own _ rfl _ _ 46 rfl W0.heap.size 3 i0 (.int .i64 0) 1 8 Try.underlying46 hi0 hz0 hz1 hz2 rfl (by decide) _ _ _ rfl (hown.out.alloc _) ⟨wr.heap.size, 0, none⟩ 1 1 [.int .i64 (-1)] rfl rfl (cell_one_new _ _ _) (by simp [Value.oneCell']) (by have := hln.out; unfold maxLen; omega) (by have := hln.out; omega) (by simp; omega) ?_; intro v' w4 hown4 hgrow _))
          have hB4 : Below W0.heap.size W0 w4 := Below.grown (w := wr.alloc (.cells #[.int .i64 (-1)] 3)) (hB.out.alloc hsz _) hgrow (by simp; omega) (fun k hk => (hlo.out k hk).1)
          replace hown4 := Lib.hid hown4
          replace hB4 := Lib.hid hB4
          clear hgrow xj hcmp
          go_wp2
          go_roundw
          case rel => exact ⟨j + 1, by omega, by go_num, by rw [hsn.out _ hv.out, List.length_append, List.map_append]; exact hown4.out, hB4.out⟩
          case measure => simp [intOf]; omega
        | false =>
          have hv : Hid (hourOr L.su.length (T j) = T j) := Lib.hid (by unfold hourOr; rw [if_neg (by simpa using hcmp)])
          go_wp2_with (first | (go_at_call 31; refine (HE.out).mono ?_; rintro e w' ⟨rfl, rfl⟩) | (at_builtin; refine wpList_append_own _ rfl _ _ 46 rfl W0.heap.size 3 i0 (.int .i64 0) 1 8 Try.underlying46 hi0 hz0 hz1 hz2 rfl (by decide) _ _ _ rfl (hown.out.alloc _) ⟨wr.heap.size, 0, none⟩ 1 1 [.int .i64 (T j)] rfl rfl (cell_one_new _ _ _) (by simp [Value.oneCell']) (by have := hln.out; unfold maxLen; omega) (by have := hln.out; omega) (by simp; omega) ?_; intro v' w4 hown4 hgrow _))
          have hB4 : Below W0.heap.size W0 w4 := Below.grown (w := wr.alloc (.cells #[.int .i64 (T j)] 3)) (hB.out.alloc hsz _) hgrow (by simp; omega) (fun k hk => (hlo.out k hk).1)
          replace hown4 := Lib.hid hown4
          replace hB4 := Lib.hid hB4
          clear hgrow xj hcmp
          go_wp2
          go_roundw
          case rel => exact ⟨j + 1, by omega, by go_num, by rw [hsn.out _ hv.out, List.length_append, List.map_append]; exact hown4.out, hB4.out⟩
          case measure => simp [intOf]; omega
      · have hjn : j = L.st.length := by omega
        subst hjn
        have hlist : Hid (((List.range L.st.length).map fun b => hourOr L.su.length (T b)) = (earlR L f' s' k').1) := Lib.hid (by
          rw [HS.out]
          exact List.map_congr_left (fun b hb => by rw [HT.out b (List.mem_range.1 hb)]))
        have herr : Hid ((earlR L f' s' k').2 = 0) := Lib.hid (by rw [HS.out])
        rw [hlist.out] at hown
        obtain ⟨A, cc, hv, hrow, hlc, _⟩ := row_of_ints hown
        subst hv
        have hfin : Hid (Below w.heap.size w wr) := Lib.hid (by
          have h1 := hBw.out
          have h2 := below_tr h1 hB0.out
          exact below_tr h2 hB)
        replace hrow := Lib.hid hrow
        clear hown hB
        go_wp2
        go_ret2
        exact ⟨A, cc, by rw [herr.out]; rfl, hrow.out, hlc, hfin.out⟩
end Go.Proofs.Ytdfohielnfdmkaa

/- Walks: package relay: Stuck. -/
set_option linter.unusedVariables false
set_option linter.unusedSimpArgs false
namespace Go.Proofs.Ytdfohielnfdmkaa
open Go.RowKit
attribute [local go_sem low] cell_alloc_ite frozen_alloc_ite ov_cell ov_frozen cell_alloc_map frozen_alloc_map

/-- The numbers before m that pass. -/
def fiTo (q : Nat → Bool) (m : Nat) : List Int := ((List.range m).filter q).map fun k : Nat => (k : Int)
theorem fiTo_succ (q : Nat → Bool) (m : Nat) : fiTo q (m + 1) = fiTo q m ++ if q m then [(m : Int)] else [] := by
  unfold fiTo
  rw [List.range_succ, List.filter_append, List.map_append]
  congr 1
  by_cases h : q m = true <;> simp [h]
theorem fiTo_len (q : Nat → Bool) (m : Nat) : (fiTo q m).length ≤ m := by
  unfold fiTo
  rw [List.length_map]
  exact Nat.le_trans (List.length_filter_le _ _) (by simp)
/-- The cases in which a dispatch does not come through, and the error. -/
noncomputable def stuckR (L : Lnd) (f t s : Int) : List Int × Int :=
  if openE L [f, t] [s] 0 ≠ 0 then ([], openE L [f, t] [s] 0) else (fiTo (fun k => decide (L.su.length < eT L (-1) f.toNat s.toNat k t.toNat)) L.ca.length, 0)
/-- Behind the test of a case. -/
def StRel (L : Lnd) (rs : Nat → Nat) (b : Bool) (wr : World) (v : Value) (wc : World) : Prop := v = .bool b ∧ KeepM (MS L rs) wr wc ∧ RM wc L rs

set_option maxRecDepth 100000 in
set_option maxHeartbeats 4000000 in
theorem stuckTop_any (V : LV) (L : Lnd) (f t s : Int) (w : World) (hr : RdL w V L) :
    Calls Try.prog 20 #[vLnd V L, .int .i64 f, .int .i64 t, .int .i64 s] w (ListTop (stuckR L f t s) w) := by
  cases he : (openE L [f, t] [s] 0 != 0) with
  | true =>
    have HO := Lib.hid (fun W b1 b2 (hW : Below w.heap.size w W) h0 h1 h2 => open21_err V L f t s b1 b2 W (hr.below hW) h0 h1 h2 he)
    have HS : Hid (stuckR L f t s = ([], openE L [f, t] [s] 0)) := Lib.hid (by unfold stuckR; rw [if_pos (by simpa using he)])
    clear hr
    go_enter Try.func20, Try.ntmps20
    go_wp2_with (go_at_call 27; refine (HO.out _ (w.heap.size + 1) (w.heap.size + 1 + 1) (by (repeat (first | exact Below.refl _ _ | (with_reducible exact Hid.out (by assumption)) | refine below_al ?_ _ | refine below_dr ?_ | refine below_tr ?_ (by assumption) | refine below_tr ?_ (Bel.out (by assumption)) | refine below_tr ?_ (Bel.out (ov_bel _ _)) | refine below_set ?_ (by simp; try omega)))) (by (try go_simp); (repeat (simp only [↓IntWalk.iteOmega]; (try go_simp))); (try omega)) (by (try go_simp); (repeat (simp only [↓IntWalk.iteOmega]; (try go_simp))); (try omega)) (by (try go_simp); (repeat (simp only [↓IntWalk.iteOmega]; (try go_simp))); (try omega))).mono ?_; rintro e w' ⟨rfl, hb⟩; obtain ⟨hc, hf⟩ := bcell hb; have hz := hb.size; try simp at hz)
    go_ret2
    exact ⟨none, 0, by rw [HS.out]; rfl, by rw [HS.out]; exact RowAt.nil _ _ _ _, by rw [HS.out]; simp, by (repeat (first | exact Below.refl _ _ | (with_reducible exact Hid.out (by assumption)) | refine below_al ?_ _ | refine below_dr ?_ | refine below_tr ?_ (by assumption) | refine below_tr ?_ (Bel.out (by assumption)) | refine below_tr ?_ (Bel.out (ov_bel _ _)) | refine below_set ?_ (by simp; try omega)))⟩
  | false =>
    have he0 : openE L [f, t] [s] 0 = 0 := by simpa using he
    have HO := Lib.hid (fun W b1 b2 (hW : Below w.heap.size w W) h0 h1 h2 => open21_ok V L f t s b1 b2 W (hr.below hW) h0 h1 h2 he0)
    obtain ⟨hf, hst, hti, _⟩ := openE_zero he0
    obtain ⟨f0, f1⟩ := hst f (by simp)
    obtain ⟨t0, t1⟩ := hst t (by simp)
    obtain ⟨s0, s1⟩ := hti s (by simp)
    obtain ⟨f', rfl⟩ := Int.eq_ofNat_of_zero_le f0
    obtain ⟨t', rfl⟩ := Int.eq_ofNat_of_zero_le t0
    obtain ⟨s', rfl⟩ := Int.eq_ofNat_of_zero_le s0
    have ok := okay_of hf
    have hu1 := ok.u1
    have hs1 := ok.s1
    have hc1 := ok.c1
    have hl3 := hr.l3
    have HSU := Lib.hid (fun p kb kc rs (W : World) (hw : RW W p kb kc V L rs) (hm : RM W L rs) (k : Nat) (hk : k < L.ca.length) => earliest_any p kb kc V L rs f' s' k (-1) W hw hm ok (by omega) (by omega) hk)
    obtain ⟨q, hq⟩ : ∃ q : Nat → Nat, q = fun k => eT L (-1) f' s' k t' := ⟨_, rfl⟩
    have HS : Hid (stuckR L f' t' s' = (fiTo (fun k => decide (L.su.length < q k)) L.ca.length, 0)) := Lib.hid (by
      unfold stuckR; rw [if_neg (by simpa using he0), hq]; rfl)
    have HQ : Hid (∀ k (T : Nat → Nat), IsTable L.st.length L.su.length (gN L k (-1)) f' s' T → T t' = q k) := Lib.hid (fun k T hT => by rw [hq]; exact tab_eq (by omega) hT (by omega))
    have HQb : Hid (∀ k, q k ≤ L.su.length + 1) := Lib.hid (fun k => by rw [hq]; exact eT_le (by omega) (by omega))
    have ht6 : t' < 6 := by omega
    clear he he0 hr hst hti ok f0 t0 s0 hf hq
    obtain ⟨i0, hi0, hz0, hz1, hz2⟩ := info_parts info_int
    go_enter Try.func20, Try.ntmps20
    go_wp2_with fail
    refine (HO.out _ (w.heap.size + 1) (w.heap.size + 1 + 1) (by (repeat (first | exact Below.refl _ _ | (with_reducible exact Hid.out (by assumption)) | refine below_al ?_ _ | refine below_dr ?_ | refine below_tr ?_ (by assumption) | refine below_tr ?_ (Bel.out (by assumption)) | refine below_tr ?_ (Bel.out (ov_bel _ _)) | refine below_set ?_ (by simp; try omega)))) (by (try go_simp); (repeat (simp only [↓IntWalk.iteOmega]; (try go_simp))); (try omega)) (by (try go_simp); (repeat (simp only [↓IntWalk.iteOmega]; (try go_simp))); (try omega)) (by (try go_simp); (repeat (simp only [↓IntWalk.iteOmega]; (try go_simp))); (try omega))).mono ?_
    rintro e w1 ⟨p, kb, kc, rs, rfl, hb, hrw, hmap⟩
    have hrm := rm_new (L := L) (fun k hk => (hmap k hk).2)
    have hc := (bcell hb).1
    have x0 : w1.cell? ⟨w.heap.size, 2, none⟩ = some (.slice V.a2 L.ca.length V.c2) := (by (try go_simp); (repeat (simp only [↓IntWalk.iteOmega]; (try go_simp))); (try omega))
    have hB := Lib.hid (show Below w.heap.size w w1 by (repeat (first | exact Below.refl _ _ | (with_reducible exact Hid.out (by assumption)) | refine below_al ?_ _ | refine below_dr ?_ | refine below_tr ?_ (by assumption) | refine below_tr ?_ (Bel.out (by assumption)) | refine below_tr ?_ (Bel.out (ov_bel _ _)) | refine below_set ?_ (by simp; try omega))))
    have hge := Lib.hid (fun k hk => (hmap k hk).1)
    replace hrw := Lib.hid hrw
    replace hrm := Lib.hid hrm
    clear hmap hb hc HO
    go_wp2
    clear x0
    go_loopw [30, 12] (fun i v wr => ∃ j : Nat, j ≤ L.ca.length ∧ i = .int .i64 j ∧ wr.ownsRow w1.heap.size 3 1 v (fiTo (fun k => decide (L.su.length < q k)) j).length ((fiTo (fun k => decide (L.su.length < q k)) j).map (Value.int .i64)) ∧ KeepM (MS L rs) w1 wr ∧ RM wr L rs) (fun i _ _ => L.ca.length - (intOf i).toNat)
    case atStart => exact ⟨0, Nat.zero_le _, rfl, World.ownsRow_nil _ _ _ _, .refl hrm.out.maps, hrm.out⟩
    case round =>
      obtain ⟨j, hj, rfl, hown, hkm, hrmj⟩ := hrel
      by_cases hlt2 : j < L.ca.length
      · have hcells := (hrw.out.keep hkm).cells
        have HEW : Hid (∀ W, Below wr.heap.size wr W → Calls Try.prog 32 #[.pointer (some ⟨p, 0, none⟩), .int .i64 f', .int .i64 s', .int .i64 j, .int .i64 (-1)] W (EarlMade L rs j (-1) f' s' W)) :=
          Lib.hid (fun W hW => HSU.out p kb kc rs W ((hrw.out.keep hkm).below hW) (hrmj.below hW) j hlt2)
        have HEN : Hid (∀ W, Kept wr W → Calls Try.prog 31 #[.pointer (some ⟨p, 0, none⟩)] W fun e w' => e = .returned (.int .i64 L.su.length) ∧ W = w') :=
          Lib.hid (fun W hW => end_any p V L W (hcells.kept hW) hl3)
        have hrb := Lib.hid (show Below wr.heap.size wr wr.drew from by (repeat (first | exact Below.refl _ _ | (with_reducible exact Hid.out (by assumption)) | refine below_al ?_ _ | refine below_dr ?_ | refine below_tr ?_ (by assumption) | refine below_tr ?_ (Bel.out (by assumption)) | refine below_tr ?_ (Bel.out (ov_bel _ _)) | refine below_set ?_ (by simp; try omega))))
        have hqb := HQb.out j
        have hqj := Lib.hid (fun T hT => HQ.out j T hT)
        replace hown := Lib.hid hown
        replace hkm := Lib.hid hkm
        replace hrmj := Lib.hid hrmj
        clear hcells
        go_upto_region 8 with fail
        go_cut [42] (fun v42 wc => StRel L rs (decide (L.su.length < q j)) wr v42 wc)
        case first =>
          go_region_with (first
            | (go_at_call 32; refine (HEW.out _ hrb.out).mono ?_; rintro e w5 ⟨T, rfl, htab, hkm5, hrm5⟩; have hix := index_six T t' ht6; rw [hqj.out T htab] at hix; replace hkm5 := Lib.hid hkm5; replace hrm5 := Lib.hid hrm5; clear htab)
            | (go_at_call 31; refine (HEN.out _ (kept_of_below hrb.out)).mono ?_; rintro e w6 ⟨rfl, rfl⟩)
            | (go_at_call 31; refine (HEN.out _ ((kept_of_below hrb.out).trans hkm5.out.kept)).mono ?_; rintro e w6 ⟨rfl, rfl⟩))
          all_goals
            have hix2 := Lib.hid hix
            clear hix
            go_wp2_with fail
            go_meet
          all_goals exact ⟨by first | rfl | (congr 1; simp), (KeepM.of_below hrmj.out.maps hrb.out).trans hkm5.out, hrm5.out⟩
        case rest =>
          obtain ⟨rfl, hkm5, hrm5⟩ := hcut
          have hown5 := owns_keep hown.out hkm5
          have hkm15 := Lib.hid (hkm.out.trans hkm5)
          have hsz := hkm15.out.size
          have hlo := Lib.hid hown5.lt
          have hln := fiTo_len (fun k => decide (L.su.length < q k)) j
          replace hown5 := Lib.hid hown5
          replace hrm5 := Lib.hid hrm5
          clear hkm hkm5 hown hrmj HEW HEN hrb
          cases hcmp : decide (L.su.length < q j) with
          | true =>
            have hsn := Lib.hid (fiTo_succ (fun k => decide (L.su.length < q k)) j)
            replace hcmp := Lib.hid hcmp
            go_wp2_with (at_builtin; refine wpList_append_own _ rfl _ _ 46 rfl w1.heap.size 3 i0 (.int .i64 0) 1 8 Try.underlying46 hi0 hz0 hz1 hz2 rfl (by decide) _ _ _ rfl (hown5.out.alloc _) ⟨wc.heap.size, 0, none⟩ 1 1 [.int .i64 j] rfl rfl (cell_one_new _ _ _) (by simp [Value.oneCell']) (by unfold maxLen; omega) (by omega) (by simp; omega) ?_; intro v' w4 hown4 hgrow _)
            have hB4 : Below w1.heap.size wc w4 := Below.grown (w := wc.alloc (.cells #[.int .i64 j] 3)) ((Below.refl _ _).alloc hsz _) hgrow (by simp; omega) (fun k hk => (hlo.out k hk).1)
            have hk4 := Lib.hid (hkm15.out.trB hB4)
            have hr4 := Lib.hid (hrm5.out.trB (fun k hk => MS.lt hrm.out k hk) hB4)
            replace hown4 := Lib.hid hown4
            clear hgrow hB4
            go_wp2
            go_roundw
            case rel => exact ⟨j + 1, by omega, by go_num, by rw [hsn.out]; simp only [hcmp.out, if_true, List.length_append, List.map_append]; exact hown4.out, hk4.out, hr4.out⟩
            case measure => simp [intOf]; omega
          | false =>
            have hsn := Lib.hid (fiTo_succ (fun k => decide (L.su.length < q k)) j)
            replace hcmp := Lib.hid hcmp
            go_wp2
            go_roundw
            case rel => exact ⟨j + 1, by omega, by go_num, by rw [hsn.out]; simp only [hcmp.out, Bool.false_eq_true, if_false, List.append_nil]; exact hown5.out, hkm15.out, hrm5.out⟩
            case measure => simp [intOf]; omega
      · have hjn : j = L.ca.length := by omega
        subst hjn
        have hlist : Hid (fiTo (fun k => decide (L.su.length < q k)) L.ca.length = (stuckR L f' t' s').1) := Lib.hid (by rw [HS.out])
        have herr : Hid ((stuckR L f' t' s').2 = 0) := Lib.hid (by rw [HS.out])
        rw [hlist.out] at hown
        obtain ⟨A, cc, hv, hrow, hlc, _⟩ := row_of_ints hown
        subst hv
        have hfin : Hid (Below w.heap.size w wr) := Lib.hid (KeepM.below hB.out hkm (fun i ⟨k, hk, e⟩ => by subst e; have := hge.out k hk; simp at this; omega))
        replace hrow := Lib.hid hrow
        clear hown hkm hrmj
        go_wp2
        go_ret2
        exact ⟨A, cc, by rw [herr.out]; rfl, hrow.out, hlc, hfin.out⟩
end Go.Proofs.Ytdfohielnfdmkaa

/- Walks: package relay: Latest, Vital. -/
set_option linter.unusedVariables false
set_option linter.unusedSimpArgs false
namespace Go.Proofs.Ytdfohielnfdmkaa
open Go.RowKit
attribute [local go_sem low] cell_alloc_ite frozen_alloc_ite ov_cell ov_frozen cell_alloc_map frozen_alloc_map

/-- The sure hour with one station left out; after the end if there is none. -/
noncomputable def sHr (L : Lnd) (out : Int) (f t s : Nat) : Int := (sureTo (fun k => eT L out f s k t) L.ca.length).1
theorem sHr_bd {L : Lnd} {out : Int} {f t s : Nat} (hs : s ≤ L.su.length) (ht : t < L.st.length) : -1 ≤ sHr L out f t s ∧ sHr L out f t s ≤ L.su.length + 1 :=
  ⟨sureTo_lo _ _, sureTo_hi _ _ (by omega) _ (fun k _ => by have := eT_le (L := L) (out := out) (src := f) (k := k) hs ht; omega)⟩
/-- The latest start, and the error. -/
noncomputable def latestR (L : Lnd) (f t b : Int) : Int × Int :=
  if openE L [f, t] [b] 0 ≠ 0 then (0, openE L [f, t] [b] 0)
  else match (List.range (b.toNat + 1)).find? fun i => decide (sHr L (-1) f.toNat t.toNat (b.toNat - i) ≤ b) with
    | some i => (b - i, 0)
    | none => (0, 10)
theorem find_first {q : Nat → Bool} {m i : Nat} (hi : i < m) (hq : q i = true) (hno : ∀ j, j < i → q j = false) : (List.range m).find? q = some i := by
  rw [List.find?_range_eq_some]
  exact ⟨hq, List.mem_range.2 hi, fun j hj => by simpa using hno j hj⟩
theorem find_no {q : Nat → Bool} {m : Nat} (hno : ∀ j, j < m → q j = false) : (List.range m).find? q = none := by
  rw [List.find?_eq_none]
  intro j hj
  simpa using hno j (List.mem_range.1 hj)
def PairTop (r : Int × Int) (w : World) (e : Ending) (w' : World) : Prop := e = .returned (.tuple #[.int .i64 r.1, .int .i64 r.2]) ∧ Below w.heap.size w w'

set_option maxRecDepth 100000 in
set_option maxHeartbeats 4000000 in
theorem latestTop_any (V : LV) (L : Lnd) (f t s : Int) (w : World) (hr : RdL w V L) :
    Calls Try.prog 10 #[vLnd V L, .int .i64 f, .int .i64 t, .int .i64 s] w (PairTop (latestR L f t s) w) := by
  cases he : (openE L [f, t] [s] 0 != 0) with
  | true =>
    have HO := Lib.hid (fun W b1 b2 (hW : Below w.heap.size w W) h0 h1 h2 => open21_err V L f t s b1 b2 W (hr.below hW) h0 h1 h2 he)
    have HS : Hid (latestR L f t s = (0, openE L [f, t] [s] 0)) := Lib.hid (by unfold latestR; rw [if_pos (by simpa using he)])
    clear hr
    go_enter Try.func10, Try.ntmps10
    go_wp2
    go_step3
    go_wp2_with (go_at_call 27; refine (HO.out _ (w.heap.size + 1) (w.heap.size + 1 + 1) (by (repeat (first | exact Below.refl _ _ | (with_reducible exact Hid.out (by assumption)) | refine below_al ?_ _ | refine below_dr ?_ | refine below_tr ?_ (by assumption) | refine below_tr ?_ (Bel.out (by assumption)) | refine below_tr ?_ (Bel.out (ov_bel _ _)) | refine below_set ?_ (by simp; try omega)))) (by (try go_simp); (repeat (simp only [↓IntWalk.iteOmega]; (try go_simp))); (try omega)) (by (try go_simp); (repeat (simp only [↓IntWalk.iteOmega]; (try go_simp))); (try omega)) (by (try go_simp); (repeat (simp only [↓IntWalk.iteOmega]; (try go_simp))); (try omega))).mono ?_; rintro e w' ⟨rfl, hb⟩; obtain ⟨hc, hf⟩ := bcell hb; have hz := hb.size; try simp at hz)
    go_ret2
    exact ⟨by rw [HS.out]; rfl, by (repeat (first | exact Below.refl _ _ | (with_reducible exact Hid.out (by assumption)) | refine below_al ?_ _ | refine below_dr ?_ | refine below_tr ?_ (by assumption) | refine below_tr ?_ (Bel.out (by assumption)) | refine below_tr ?_ (Bel.out (ov_bel _ _)) | refine below_set ?_ (by simp; try omega)))⟩
  | false =>
    have he0 : openE L [f, t] [s] 0 = 0 := by simpa using he
    have HO := Lib.hid (fun W b1 b2 (hW : Below w.heap.size w W) h0 h1 h2 => open21_ok V L f t s b1 b2 W (hr.below hW) h0 h1 h2 he0)
    obtain ⟨hf, hst, hti, _⟩ := openE_zero he0
    obtain ⟨f0, f1⟩ := hst f (by simp)
    obtain ⟨t0, t1⟩ := hst t (by simp)
    obtain ⟨s0, s1⟩ := hti s (by simp)
    obtain ⟨f', rfl⟩ := Int.eq_ofNat_of_zero_le f0
    obtain ⟨t', rfl⟩ := Int.eq_ofNat_of_zero_le t0
    obtain ⟨s', rfl⟩ := Int.eq_ofNat_of_zero_le s0
    have ok := okay_of hf
    have hu1 := ok.u1
    have hs1 := ok.s1
    have hl3 := hr.l3
    have HSU := Lib.hid (fun p kb kc rs (W : World) (hw : RW W p kb kc V L rs) (hm : RM W L rs) (d : Nat) (hd : d ≤ L.su.length) => sure_any p kb kc V L rs f' t' d (-1) W hw hm ok (by omega) (by omega) hd)
    obtain ⟨q, hq⟩ : ∃ q : Nat → Int, q = fun d => sHr L (-1) f' t' d := ⟨_, rfl⟩
    have HS : Hid (latestR L f' t' s' = match (List.range (s' + 1)).find? fun i => decide (q (s' - i) ≤ s') with | some i => ((s' : Int) - i, 0) | none => (0, 10)) := Lib.hid (by
      unfold latestR; rw [if_neg (by simpa using he0), hq]; rfl)
    have HQ : Hid (∀ d, (sureTo (fun k => eT L (-1) f' d k t') L.ca.length).1 = q d) := Lib.hid (fun d => by rw [hq]; rfl)
    have HQb : Hid (∀ d, d ≤ L.su.length → -1 ≤ q d ∧ q d ≤ L.su.length + 1) := Lib.hid (fun d hd => by rw [hq]; exact sHr_bd hd (by omega))
    have hsE : s' ≤ L.su.length := by omega
    have hgl : ∀ i : Nat, i ≤ s' → (s' : Int) - i = ((s' - i : Nat) : Int) := fun i hi => by omega
    replace hgl := Lib.hid hgl
    unfold SureMade at HSU
    clear he he0 hr hst hti ok f0 t0 s0 hf hq
    go_enter Try.func10, Try.ntmps10
    go_wp2
    go_step3
    go_wp2_with fail
    refine (HO.out _ (w.heap.size + 1) (w.heap.size + 1 + 1) (by (repeat (first | exact Below.refl _ _ | (with_reducible exact Hid.out (by assumption)) | refine below_al ?_ _ | refine below_dr ?_ | refine below_tr ?_ (by assumption) | refine below_tr ?_ (Bel.out (by assumption)) | refine below_tr ?_ (Bel.out (ov_bel _ _)) | refine below_set ?_ (by simp; try omega)))) (by (try go_simp); (repeat (simp only [↓IntWalk.iteOmega]; (try go_simp))); (try omega)) (by (try go_simp); (repeat (simp only [↓IntWalk.iteOmega]; (try go_simp))); (try omega)) (by (try go_simp); (repeat (simp only [↓IntWalk.iteOmega]; (try go_simp))); (try omega))).mono ?_
    rintro e w1 ⟨p, kb, kc, rs, rfl, hb, hrw, hmap⟩
    have hrm := rm_new (L := L) (fun k hk => (hmap k hk).2)
    have hB := Lib.hid (show Below w.heap.size w w1 by (repeat (first | exact Below.refl _ _ | (with_reducible exact Hid.out (by assumption)) | refine below_al ?_ _ | refine below_dr ?_ | refine below_tr ?_ (by assumption) | refine below_tr ?_ (Bel.out (by assumption)) | refine below_tr ?_ (Bel.out (ov_bel _ _)) | refine below_set ?_ (by simp; try omega))))
    have hge := Lib.hid (fun k hk => (hmap k hk).1)
    replace hrw := Lib.hid hrw
    replace hrm := Lib.hid hrm
    clear hmap hb HO
    go_wp2
    go_step3
    go_wp2
    go_loopw [31, 12] (fun i v wr => ∃ j : Nat, j ≤ s' + 1 ∧ i = .int .i64 j ∧ v = .int .i64 (-1) ∧ (∀ i', i' < j → decide (q (s' - i') ≤ s') = false) ∧ KeepM (MS L rs) w1 wr ∧ RM wr L rs) (fun i _ _ => s' + 1 - (intOf i).toNat)
    case atStart => exact ⟨0, Nat.zero_le _, rfl, rfl, fun i' hi => by omega, .refl hrm.out.maps, hrm.out⟩
    case round =>
      obtain ⟨j, hj, rfl, rfl, hno, hkm, hrmj⟩ := hrel
      replace hno := Lib.hid hno
      replace hkm := Lib.hid hkm
      replace hrmj := Lib.hid hrmj
      by_cases hlt2 : j < s' + 1
      · have hqb := HQb.out (s' - j) (by omega)
        go_wp2_with fail
        rw [hgl.out j (by omega)]
        refine (HSU.out p kb kc rs wr (hrw.out.keep hkm.out) hrmj.out (s' - j) (by omega)).mono ?_
        rw [HQ.out]
        rintro e w2 ⟨rfl, hkm2, hrm2⟩
        replace hkm2 := Lib.hid (hkm.out.trans hkm2)
        replace hrm2 := Lib.hid hrm2
        clear hkm hrmj
        cases hcmp : decide ((s' : Int) < q (s' - j)) with
        | true =>
          have hcmp' := Lib.hid (show decide (q (s' - j) ≤ s') = false by simp at hcmp ⊢; omega)
          go_wp2
          go_roundw
          case rel => exact ⟨j + 1, by omega, by go_num, rfl, fun i' hi => by by_cases e : i' = j; subst e; exact hcmp'.out; exact hno.out i' (by omega), hkm2.out, hrm2.out⟩
          case measure => simp [intOf]; omega
        | false =>
          have hcmp' := Lib.hid (show decide (q (s' - j) ≤ s') = true by simp at hcmp ⊢; omega)
          have hfi := Lib.hid (find_first (q := fun i => decide (q (s' - i) ≤ s')) hlt2 hcmp'.out hno.out)
          have hfin : Hid (Below w.heap.size w w2) := Lib.hid (KeepM.below hB.out hkm2.out (fun i ⟨k, hk, e⟩ => by subst e; have := hge.out k hk; simp at this; omega))
          have hne : ((s' : Int) - j == -1) = false := by simp; omega
          clear hkm2 hrm2 hB hge
          go_wp2
          go_ret2
          exact ⟨by rw [HS.out, hfi.out]; rfl, hfin.out⟩
      · have hjn : j = s' + 1 := by omega
        subst hjn
        have hfi := Lib.hid (find_no (q := fun i => decide (q (s' - i) ≤ s')) hno.out)
        have hfin : Hid (Below w.heap.size w wr) := Lib.hid (KeepM.below hB.out hkm.out (fun i ⟨k, hk, e⟩ => by subst e; have := hge.out k hk; simp at this; omega))
        clear hkm hrmj hB hge
        go_wp2
        go_ret2
        exact ⟨by rw [HS.out, hfi.out]; rfl, hfin.out⟩
end Go.Proofs.Ytdfohielnfdmkaa

/- Walks: package relay: Vital. -/
set_option linter.unusedVariables false
set_option linter.unusedSimpArgs false
namespace Go.Proofs.Ytdfohielnfdmkaa
open Go.RowKit
attribute [local go_sem low] cell_alloc_ite frozen_alloc_ite ov_cell ov_frozen cell_alloc_map frozen_alloc_map

/-- Whether a station is vital, of one that is asked. -/
noncomputable def vitB (L : Lnd) (f t s i : Nat) : Bool := !((i : Int) == f) && !((i : Int) == t) && decide ((L.su.length : Int) < sHr L i f t s)
/-- The vital stations, and the error. -/
noncomputable def vitalR (L : Lnd) (f t s : Int) : List Int × Int :=
  if openE L [f, t] [s] 0 ≠ 0 then ([], openE L [f, t] [s] 0)
  else if (L.su.length : Int) < sHr L (-1) f.toNat t.toNat s.toNat then ([], 10)
  else (fiTo (vitB L f.toNat t.toNat s.toNat) L.st.length, 0)

set_option maxRecDepth 100000 in
set_option maxHeartbeats 8000000 in
theorem vitalTop_any (V : LV) (L : Lnd) (f t s : Int) (w : World) (hr : RdL w V L) :
    Calls Try.prog 14 #[vLnd V L, .int .i64 f, .int .i64 t, .int .i64 s] w (ListTop (vitalR L f t s) w) := by
  cases he : (openE L [f, t] [s] 0 != 0) with
  | true =>
    have HO := Lib.hid (fun W b1 b2 (hW : Below w.heap.size w W) h0 h1 h2 => open21_err V L f t s b1 b2 W (hr.below hW) h0 h1 h2 he)
    have HS : Hid (vitalR L f t s = ([], openE L [f, t] [s] 0)) := Lib.hid (by unfold vitalR; rw [if_pos (by simpa using he)])
    clear hr
    go_enter Try.func14, Try.ntmps14
    go_wp2_with (go_at_call 27; refine (HO.out _ (w.heap.size + 1) (w.heap.size + 1 + 1) (by (repeat (first | exact Below.refl _ _ | (with_reducible exact Hid.out (by assumption)) | refine below_al ?_ _ | refine below_dr ?_ | refine below_tr ?_ (by assumption) | refine below_tr ?_ (Bel.out (by assumption)) | refine below_tr ?_ (Bel.out (ov_bel _ _)) | refine below_set ?_ (by simp; try omega)))) (by (try go_simp); (repeat (simp only [↓IntWalk.iteOmega]; (try go_simp))); (try omega)) (by (try go_simp); (repeat (simp only [↓IntWalk.iteOmega]; (try go_simp))); (try omega)) (by (try go_simp); (repeat (simp only [↓IntWalk.iteOmega]; (try go_simp))); (try omega))).mono ?_; rintro e w' ⟨rfl, hb⟩; obtain ⟨hc, hf⟩ := bcell hb; have hz := hb.size; try simp at hz)
    go_ret2
    exact ⟨none, 0, by rw [HS.out]; rfl, by rw [HS.out]; exact RowAt.nil _ _ _ _, by rw [HS.out]; simp, by (repeat (first | exact Below.refl _ _ | (with_reducible exact Hid.out (by assumption)) | refine below_al ?_ _ | refine below_dr ?_ | refine below_tr ?_ (by assumption) | refine below_tr ?_ (Bel.out (by assumption)) | refine below_tr ?_ (Bel.out (ov_bel _ _)) | refine below_set ?_ (by simp; try omega)))⟩
  | false =>
    have he0 : openE L [f, t] [s] 0 = 0 := by simpa using he
    have HO := Lib.hid (fun W b1 b2 (hW : Below w.heap.size w W) h0 h1 h2 => open21_ok V L f t s b1 b2 W (hr.below hW) h0 h1 h2 he0)
    obtain ⟨hf, hst, hti, _⟩ := openE_zero he0
    obtain ⟨f0, f1⟩ := hst f (by simp)
    obtain ⟨t0, t1⟩ := hst t (by simp)
    obtain ⟨s0, s1⟩ := hti s (by simp)
    obtain ⟨f', rfl⟩ := Int.eq_ofNat_of_zero_le f0
    obtain ⟨t', rfl⟩ := Int.eq_ofNat_of_zero_le t0
    obtain ⟨s', rfl⟩ := Int.eq_ofNat_of_zero_le s0
    have ok := okay_of hf
    have hu1 := ok.u1
    have hs1 := ok.s1
    have hl3 := hr.l3
    have HSU := Lib.hid (fun p kb kc rs (W : World) (hw : RW W p kb kc V L rs) (hm : RM W L rs) (out : Int) => sure_any p kb kc V L rs f' t' s' out W hw hm ok (by omega) (by omega) (by omega))
    obtain ⟨q, hq⟩ : ∃ q : Int → Int, q = fun o => sHr L o f' t' s' := ⟨_, rfl⟩
    have HS : Hid (vitalR L f' t' s' = if (L.su.length : Int) < q (-1) then ([], 10) else (fiTo (fun i => !((i : Int) == f') && !((i : Int) == t') && decide ((L.su.length : Int) < q i)) L.st.length, 0)) := Lib.hid (by
      unfold vitalR; rw [if_neg (by simpa using he0), hq]; rfl)
    have HQ : Hid (∀ o, (sureTo (fun k => eT L o f' s' k t') L.ca.length).1 = q o) := Lib.hid (fun o => by rw [hq]; rfl)
    have HQb : Hid (∀ o, -1 ≤ q o ∧ q o ≤ L.su.length + 1) := Lib.hid (fun o => by rw [hq]; exact sHr_bd (by omega) (by omega))
    unfold SureMade at HSU
    clear he he0 hr hst hti ok f0 t0 s0 hf hq
    obtain ⟨i0, hi0, hz0, hz1, hz2⟩ := info_parts info_int
    have hqb := HQb.out (-1)
    cases hcmp : decide ((L.su.length : Int) < q (-1)) with
    | true =>
      have HS2 : Hid (vitalR L f' t' s' = ([], 10)) := Lib.hid (by rw [HS.out, if_pos (by simpa using hcmp)])
      go_enter Try.func14, Try.ntmps14
      go_wp2_with fail
      refine (HO.out _ (w.heap.size + 1) (w.heap.size + 1 + 1) (by (repeat (first | exact Below.refl _ _ | (with_reducible exact Hid.out (by assumption)) | refine below_al ?_ _ | refine below_dr ?_ | refine below_tr ?_ (by assumption) | refine below_tr ?_ (Bel.out (by assumption)) | refine below_tr ?_ (Bel.out (ov_bel _ _)) | refine below_set ?_ (by simp; try omega)))) (by (try go_simp); (repeat (simp only [↓IntWalk.iteOmega]; (try go_simp))); (try omega)) (by (try go_simp); (repeat (simp only [↓IntWalk.iteOmega]; (try go_simp))); (try omega)) (by (try go_simp); (repeat (simp only [↓IntWalk.iteOmega]; (try go_simp))); (try omega))).mono ?_
      rintro e w1 ⟨p, kb, kc, rs, rfl, hb, hrw, hmap⟩
      have hrm := rm_new (L := L) (fun k hk => (hmap k hk).2)
      have hB := Lib.hid (show Below w.heap.size w w1 by (repeat (first | exact Below.refl _ _ | (with_reducible exact Hid.out (by assumption)) | refine below_al ?_ _ | refine below_dr ?_ | refine below_tr ?_ (by assumption) | refine below_tr ?_ (Bel.out (by assumption)) | refine below_tr ?_ (Bel.out (ov_bel _ _)) | refine below_set ?_ (by simp; try omega))))
      have hge := Lib.hid (fun k hk => (hmap k hk).1)
      replace hrw := Lib.hid hrw
      replace hrm := Lib.hid hrm
      clear hmap hb HO
      go_wp2_with fail
      refine (HSU.out p kb kc rs w1 hrw.out hrm.out (-1)).mono ?_
      rw [HQ.out]
      rintro e w2 ⟨rfl, hkm, hrm2⟩
      have HE := Lib.hid (end_any p V L w2 ((hrw.out.keep hkm).cells) hl3)
      have hfin : Hid (Below w.heap.size w w2) := Lib.hid (KeepM.below hB.out hkm (fun i ⟨k, hk, e⟩ => by subst e; have := hge.out k hk; simp at this; omega))
      clear hrm2 hkm hB hge
      go_wp2_with (go_at_call 31; refine (HE.out).mono ?_; rintro e w' ⟨rfl, rfl⟩)
      go_ret2
      exact ⟨none, 0, by rw [HS2.out]; rfl, by rw [HS2.out]; exact RowAt.nil _ _ _ _, by rw [HS2.out]; simp, hfin.out⟩
    | false =>
      have HS2 : Hid (vitalR L f' t' s' = (fiTo (fun i => !((i : Int) == f') && !((i : Int) == t') && decide ((L.su.length : Int) < q i)) L.st.length, 0)) := Lib.hid (by rw [HS.out, if_neg (by simpa using hcmp)])
      go_enter Try.func14, Try.ntmps14
      go_wp2_with fail
      refine (HO.out _ (w.heap.size + 1) (w.heap.size + 1 + 1) (by (repeat (first | exact Below.refl _ _ | (with_reducible exact Hid.out (by assumption)) | refine below_al ?_ _ | refine below_dr ?_ | refine below_tr ?_ (by assumption) | refine below_tr ?_ (Bel.out (by assumption)) | refine below_tr ?_ (Bel.out (ov_bel _ _)) | refine below_set ?_ (by simp; try omega)))) (by (try go_simp); (repeat (simp only [↓IntWalk.iteOmega]; (try go_simp))); (try omega)) (by (try go_simp); (repeat (simp only [↓IntWalk.iteOmega]; (try go_simp))); (try omega)) (by (try go_simp); (repeat (simp only [↓IntWalk.iteOmega]; (try go_simp))); (try omega))).mono ?_
      rintro e w1 ⟨p, kb, kc, rs, rfl, hb, hrw, hmap⟩
      have hrm := rm_new (L := L) (fun k hk => (hmap k hk).2)
      have hc := (bcell hb).1
      have x0 : w1.cell? ⟨w.heap.size, 0, none⟩ = some (.slice V.a0 L.st.length V.c0) := (by (try go_simp); (repeat (simp only [↓IntWalk.iteOmega]; (try go_simp))); (try omega))
      have hB := Lib.hid (show Below w.heap.size w w1 by (repeat (first | exact Below.refl _ _ | (with_reducible exact Hid.out (by assumption)) | refine below_al ?_ _ | refine below_dr ?_ | refine below_tr ?_ (by assumption) | refine below_tr ?_ (Bel.out (by assumption)) | refine below_tr ?_ (Bel.out (ov_bel _ _)) | refine below_set ?_ (by simp; try omega))))
      have hge := Lib.hid (fun k hk => (hmap k hk).1)
      replace hrw := Lib.hid hrw
      replace hrm := Lib.hid hrm
      clear hmap hb HO hc
      go_wp2_with fail
      refine (HSU.out p kb kc rs w1 hrw.out hrm.out (-1)).mono ?_
      rw [HQ.out]
      rintro e w2 ⟨rfl, hkm, hrm2⟩
      have HE := Lib.hid (end_any p V L w2 ((hrw.out.keep hkm).cells) hl3)
      have y0 := hkm.kept _ _ x0
      have hkm0 := Lib.hid hkm
      replace hrm2 := Lib.hid hrm2
      clear hkm x0
      go_wp2_with (go_at_call 31; refine (HE.out).mono ?_; rintro e w' ⟨rfl, rfl⟩)
      clear y0 HE
      generalize hqq : (fun i : Nat => !((i : Int) == f') && !((i : Int) == t') && decide ((L.su.length : Int) < q i)) = qq at *
      replace hqq := Lib.hid hqq
      go_loopw [46, 14] (fun i v wr => ∃ j : Nat, j ≤ L.st.length ∧ i = .int .i64 j ∧ wr.ownsRow w1.heap.size 3 1 v (fiTo qq j).length ((fiTo qq j).map (Value.int .i64)) ∧ KeepM (MS L rs) w1 wr ∧ RM wr L rs) (fun i _ _ => L.st.length - (intOf i).toNat)
      case atStart => exact ⟨0, Nat.zero_le _, rfl, World.ownsRow_nil _ _ _ _, hkm0.out, hrm2.out⟩
      case round =>
        obtain ⟨j, hj, rfl, hown, hkm, hrmj⟩ := hrel
        by_cases hlt2 : j < L.st.length
        · have hsz := hkm.size
          have hsn := Lib.hid (fiTo_succ qq j)
          have hqj : Hid (qq j = (!((j : Int) == f') && !((j : Int) == t') && decide ((L.su.length : Int) < q j))) := Lib.hid (by rw [← hqq.out])
          replace hown := Lib.hid hown
          replace hkm := Lib.hid hkm
          replace hrmj := Lib.hid hrmj
          cases h1 : ((j : Int) == f') with
          | true =>
            have hno : Hid (qq j = false) := Lib.hid (by rw [hqj.out, h1]; rfl)
            go_wp2
            go_roundw
            case rel => exact ⟨j + 1, by omega, by go_num, by rw [hsn.out]; simp only [hno.out, Bool.false_eq_true, if_false, List.append_nil]; exact hown.out, hkm.out, hrmj.out⟩
            case measure => simp [intOf]; omega
          | false =>
            cases h2 : ((j : Int) == t') with
            | true =>
              have hno : Hid (qq j = false) := Lib.hid (by rw [hqj.out, h2]; simp)
              go_wp2
              go_roundw
              case rel => exact ⟨j + 1, by omega, by go_num, by rw [hsn.out]; simp only [hno.out, Bool.false_eq_true, if_false, List.append_nil]; exact hown.out, hkm.out, hrmj.out⟩
              case measure => simp [intOf]; omega
            | false =>
              have hqb2 := HQb.out j
              go_wp2_with fail
              refine (HSU.out p kb kc rs wr (hrw.out.keep hkm.out) hrmj.out j).mono ?_
              rw [HQ.out]
              rintro e w5 ⟨rfl, hkm5, hrm5⟩
              have HE5 := Lib.hid (end_any p V L w5 ((hrw.out.keep (hkm.out.trans hkm5)).cells) hl3)
              have hown5 := owns_keep hown.out hkm5
              have hkm15 := Lib.hid (hkm.out.trans hkm5)
              have hsz5 := hkm15.out.size
              have hlo := Lib.hid hown5.lt
              have hln := fiTo_len qq j
              replace hown5 := Lib.hid hown5
              replace hrm5 := Lib.hid hrm5
              clear hkm hkm5 hown hrmj
              cases hcm : decide ((L.su.length : Int) < q j) with
              | true =>
                have hyes : Hid (qq j = true) := Lib.hid (by rw [hqj.out, h1, h2, hcm]; rfl)
                go_wp2_with (first | (go_at_call 31; refine (HE5.out).mono ?_; rintro e w' ⟨rfl, rfl⟩) | (at_builtin; refine wpList_append_own _ rfl _ _ 46 rfl w1.heap.size 3 i0 (.int .i64 0) 1 8 Try.underlying46 hi0 hz0 hz1 hz2 rfl (by decide) _ _ _ rfl (hown5.out.alloc _) ⟨w5.heap.size, 0, none⟩ 1 1 [.int .i64 j] rfl rfl (cell_one_new _ _ _) (by simp [Value.oneCell']) (by unfold maxLen; omega) (by omega) (by simp; omega) ?_; intro v' w4 hown4 hgrow _))
                have hB4 : Below w1.heap.size w5 w4 := Below.grown (w := w5.alloc (.cells #[.int .i64 j] 3)) ((Below.refl _ _).alloc hsz5 _) hgrow (by simp; omega) (fun k hk => (hlo.out k hk).1)
                have hk4 := Lib.hid (hkm15.out.trB hB4)
                have hr4 := Lib.hid (hrm5.out.trB (fun k hk => MS.lt hrm.out k hk) hB4)
                replace hown4 := Lib.hid hown4
                clear hgrow hB4
                go_wp2
                go_roundw
                case rel => exact ⟨j + 1, by omega, by go_num, by rw [hsn.out]; simp only [hyes.out, if_true, List.length_append, List.map_append]; exact hown4.out, hk4.out, hr4.out⟩
                case measure => simp [intOf]; omega
              | false =>
                have hno : Hid (qq j = false) := Lib.hid (by rw [hqj.out, hcm]; simp)
                go_wp2_with (go_at_call 31; refine (HE5.out).mono ?_; rintro e w' ⟨rfl, rfl⟩)
                go_roundw
                case rel => exact ⟨j + 1, by omega, by go_num, by rw [hsn.out]; simp only [hno.out, Bool.false_eq_true, if_false, List.append_nil]; exact hown5.out, hkm15.out, hrm5.out⟩
                case measure => simp [intOf]; omega
        · have hjn : j = L.st.length := by omega
          subst hjn
          have hlist : Hid (fiTo qq L.st.length = (vitalR L f' t' s').1) := Lib.hid (by rw [HS2.out])
          have herr : Hid ((vitalR L f' t' s').2 = 0) := Lib.hid (by rw [HS2.out])
          rw [hlist.out] at hown
          obtain ⟨A, cc, hv, hrow, hlc, _⟩ := row_of_ints hown
          subst hv
          have hfin : Hid (Below w.heap.size w wr) := Lib.hid (KeepM.below hB.out hkm (fun i ⟨k, hk, e⟩ => by subst e; have := hge.out k hk; simp at this; omega))
          replace hrow := Lib.hid hrow
          clear hown hkm hrmj
          go_wp2
          go_ret2
          exact ⟨A, cc, by rw [herr.out]; rfl, hrow.out, hlc, hfin.out⟩
end Go.Proofs.Ytdfohielnfdmkaa

