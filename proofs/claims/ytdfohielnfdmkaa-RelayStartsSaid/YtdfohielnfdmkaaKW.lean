/- Part KW of the proof: X9 · C5. -/
import Derived.Test.YtdfohielnfdmkaaKS
import Derived.Test.YtdfohielnfdmkaaKV
import Derived.Test.YtdfohielnfdmkaaKT
set_option linter.unusedVariables false
set_option linter.unusedSimpArgs false
/- Walks: helpers of the laws: ready, numbers. -/
set_option linter.unusedVariables false
set_option linter.unusedSimpArgs false
namespace Go.Proofs.Ytdfohielnfdmkaa
open Go.RowKit
attribute [local go_sem low] cell_alloc_ite frozen_alloc_ite ov_cell ov_frozen

/-- Whether a statement can use a land. -/
def readyB (L : Lnd) : Bool := thinB L && decide (faultL L = 0)
set_option maxRecDepth 100000 in
set_option maxHeartbeats 4000000 in
theorem ready_any (V : LV) (L : Lnd) (w : World) (hr : RawL w V L) : Calls Try.prog 7 #[vLnd V L] w fun e w' => e = .returned (.bool (readyB L)) ∧ Below w.heap.size w w' := by
  have HT := Lib.hid (fun W (hW : Below w.heap.size w W) => thin_any V L W ⟨hr.st.kept (kept_of_below hW), hr.ri.kept (kept_of_below hW), hr.ca.kept (kept_of_below hW), hr.su.kept (kept_of_below hW), hr.k0, hr.k1, hr.k2, hr.k3⟩)
  cases hth : thinB L with
  | false =>
    have hR : Hid (readyB L = false) := Lib.hid (by unfold readyB; rw [hth]; rfl)
    rw [hth] at HT
    obtain ⟨a0, c0, a1, c1, a2, c2, a3, c3⟩ := V
    simp only [vLnd] at *
    clear hr hth
    go_enter Try.func7, Try.ntmps7
    go_wp2_with (go_at_call 25; refine (HT.out _ (by (repeat (first | exact Below.refl _ _ | (with_reducible exact Hid.out (by assumption)) | refine below_al ?_ _ | refine below_dr ?_ | refine below_tr ?_ (by assumption) | refine below_tr ?_ (Bel.out (by assumption)) | refine below_tr ?_ (Bel.out (ov_bel _ _)) | refine below_set ?_ (by simp; try omega))))).mono ?_; rintro e w' ⟨rfl, hb⟩; obtain ⟨hc, hf⟩ := bcell hb; have hz := hb.size; try simp at hz)
    go_ret
    exact ⟨by rw [hR.out]; rfl, by (repeat (first | exact Below.refl _ _ | (with_reducible exact Hid.out (by assumption)) | refine below_al ?_ _ | refine below_dr ?_ | refine below_tr ?_ (by assumption) | refine below_tr ?_ (Bel.out (by assumption)) | refine below_tr ?_ (Bel.out (ov_bel _ _)) | refine below_set ?_ (by simp; try omega)))⟩
  | true =>
    have HF := Lib.hid (fun W (hW : Below w.heap.size w W) => rfault_any V L W ((hr.thin hth).below hW))
    have hR : Hid (readyB L = decide (faultL L = 0)) := Lib.hid (by unfold readyB; rw [hth]; rfl)
    rw [hth] at HT
    obtain ⟨a0, c0, a1, c1, a2, c2, a3, c3⟩ := V
    simp only [vLnd] at *
    clear hr hth
    generalize faultL L = z at *
    by_cases hz0 : z = 0
    · have hd : (z == 0) = true := by rw [hz0]; rfl
      have hR2 : Hid (readyB L = true) := Lib.hid (by rw [hR.out, hz0]; rfl)
      clear hz0 hR
      go_enter Try.func7, Try.ntmps7
      go_wp2_with (first | (go_at_call 25; refine (HT.out _ (by (repeat (first | exact Below.refl _ _ | (with_reducible exact Hid.out (by assumption)) | refine below_al ?_ _ | refine below_dr ?_ | refine below_tr ?_ (by assumption) | refine below_tr ?_ (Bel.out (by assumption)) | refine below_tr ?_ (Bel.out (ov_bel _ _)) | refine below_set ?_ (by simp; try omega))))).mono ?_; rintro e w' ⟨rfl, hb⟩; obtain ⟨hc, hf⟩ := bcell hb; have hz := hb.size; try simp at hz) | (go_at_call 18; refine (HF.out _ (by (repeat (first | exact Below.refl _ _ | (with_reducible exact Hid.out (by assumption)) | refine below_al ?_ _ | refine below_dr ?_ | refine below_tr ?_ (by assumption) | refine below_tr ?_ (Bel.out (by assumption)) | refine below_tr ?_ (Bel.out (ov_bel _ _)) | refine below_set ?_ (by simp; try omega))))).mono ?_; rintro e w' ⟨rfl, hb⟩; obtain ⟨hc, hf⟩ := bcell hb; have hz := hb.size; try simp at hz))
      go_ret
      exact ⟨by rw [hR2.out]; rfl, by (repeat (first | exact Below.refl _ _ | (with_reducible exact Hid.out (by assumption)) | refine below_al ?_ _ | refine below_dr ?_ | refine below_tr ?_ (by assumption) | refine below_tr ?_ (Bel.out (by assumption)) | refine below_tr ?_ (Bel.out (ov_bel _ _)) | refine below_set ?_ (by simp; try omega)))⟩
    · have hd : (z == 0) = false := by simpa using hz0
      have hR2 : Hid (readyB L = false) := Lib.hid (by rw [hR.out]; exact decide_eq_false hz0)
      clear hz0 hR
      go_enter Try.func7, Try.ntmps7
      go_wp2_with (first | (go_at_call 25; refine (HT.out _ (by (repeat (first | exact Below.refl _ _ | (with_reducible exact Hid.out (by assumption)) | refine below_al ?_ _ | refine below_dr ?_ | refine below_tr ?_ (by assumption) | refine below_tr ?_ (Bel.out (by assumption)) | refine below_tr ?_ (Bel.out (ov_bel _ _)) | refine below_set ?_ (by simp; try omega))))).mono ?_; rintro e w' ⟨rfl, hb⟩; obtain ⟨hc, hf⟩ := bcell hb; have hz := hb.size; try simp at hz) | (go_at_call 18; refine (HF.out _ (by (repeat (first | exact Below.refl _ _ | (with_reducible exact Hid.out (by assumption)) | refine below_al ?_ _ | refine below_dr ?_ | refine below_tr ?_ (by assumption) | refine below_tr ?_ (Bel.out (by assumption)) | refine below_tr ?_ (Bel.out (ov_bel _ _)) | refine below_set ?_ (by simp; try omega))))).mono ?_; rintro e w' ⟨rfl, hb⟩; obtain ⟨hc, hf⟩ := bcell hb; have hz := hb.size; try simp at hz))
      go_ret
      exact ⟨by rw [hR2.out]; rfl, by (repeat (first | exact Below.refl _ _ | (with_reducible exact Hid.out (by assumption)) | refine below_al ?_ _ | refine below_dr ?_ | refine below_tr ?_ (by assumption) | refine below_tr ?_ (Bel.out (by assumption)) | refine below_tr ?_ (Bel.out (ov_bel _ _)) | refine below_set ?_ (by simp; try omega)))⟩

set_option maxRecDepth 100000 in
set_option maxHeartbeats 4000000 in
theorem numbers_any (V : LV) (L : Lnd) (a b c : Nat) (w : World) (hr : RdL w V L) (ha : a ≤ 255) (hb : b ≤ 255) (hc : c ≤ 255) (h0 : 0 < L.st.length) (h2 : 0 < L.ca.length) :
    Calls Try.prog 9 #[vLnd V L, .int .u8 a, .int .u8 b, .int .u8 c] w fun e w' => e = .returned (.tuple #[.int .i64 ((a % L.st.length : Nat) : Int), .int .i64 ((b % (L.su.length + 1) : Nat) : Int), .int .i64 ((c % L.ca.length : Nat) : Int)]) ∧ Below w.heap.size w w' := by
  have l0 := hr.l0
  have l2 := hr.l2
  have l3 := hr.l3
  have HE := Lib.hid (fun W => rend_any V L W l3)
  obtain ⟨a0, c0, a1, c1, a2, c2, a3, c3⟩ := V
  simp only [vLnd] at *
  clear hr
  go_enter Try.func9, Try.ntmps9
  go_wp2
  (refine wp_region_ov (by kernel_rfl) (by kernel_rfl) (fun R hR => ?_); (repeat (go_big_quiet_step ((first | (go_at_call 13; exact calls_ov (HE.out _)))))); refine wpQuiet_nil ?_; refine hR.out _ ?_; clear hR R; intro W hW; have hc := hW.cells; have hf := hW.frozens; have hz := hW.size; (try simp at hz))
  have hB := Lib.hid (show Below w.heap.size w W from by (repeat (first | exact Below.refl _ _ | (with_reducible exact Hid.out (by assumption)) | refine below_al ?_ _ | refine below_dr ?_ | refine below_tr ?_ (by assumption) | refine below_tr ?_ (Bel.out (by assumption)) | refine below_tr ?_ (Bel.out (ov_bel _ _)) | refine below_set ?_ (by simp; try omega))))
  have e1 : ((a % L.st.length : Nat) : Int) = (a : Int) % (L.st.length : Int) := Int.natCast_emod _ _
  have e2 : ((b % (L.su.length + 1) : Nat) : Int) = (b : Int) % ((L.su.length : Int) + 1) := Int.natCast_emod _ _
  have e3 : ((c % L.ca.length : Nat) : Int) = (c : Int) % (L.ca.length : Int) := Int.natCast_emod _ _
  replace e1 := Lib.hid e1
  replace e2 := Lib.hid e2
  replace e3 := Lib.hid e3
  clear hc hf hz hW
  go_wp2
  go_ret3
  exact ⟨by rw [e1.out, e2.out, e3.out]; rfl, hB.out⟩
end Go.Proofs.Ytdfohielnfdmkaa

/- Plain laws: valid arguments; a dispatch to the station at which it is. -/
set_option linter.unusedVariables false
namespace Go.Proofs.Ytdfohielnfdmkaa
open Go.RowKit

theorem ready_fault {L : Lnd} (h : readyB L = true) : thinB L = true ∧ faultL L = 0 := by
  unfold readyB at h
  simpa using h
theorem openE_val {L : Lnd} {xs ys : List Int} {k : Int} (hf : faultL L = 0) (hx : ∀ x ∈ xs, 0 ≤ x ∧ x < L.st.length) (hy : ∀ y ∈ ys, 0 ≤ y ∧ y ≤ L.su.length) (hk : 0 ≤ k ∧ k < L.ca.length) : openE L xs ys k = 0 := by
  unfold openE
  rw [if_neg (by simpa using hf), if_neg]
  simp only [Bool.or_eq_true, Bool.not_eq_true', not_or, Bool.not_eq_false, List.all_eq_true, inR_true]
  exact ⟨⟨fun x h => by have := hx x h; omega, hy⟩, by omega⟩
theorem open2_val {L : Lnd} {f t s : Nat} (hf : faultL L = 0) (h1 : f < L.st.length) (h2 : t < L.st.length) (h3 : s ≤ L.su.length) : openE L [(f : Int), t] [(s : Int)] 0 = 0 := by
  have ok := okay_of hf
  have := ok.c0
  exact openE_val hf (fun x hx => by simp at hx; omega) (fun y hy => by simp at hy; omega) (by omega)
theorem open1_val {L : Lnd} {f s k : Nat} (hf : faultL L = 0) (h1 : f < L.st.length) (h3 : s ≤ L.su.length) (hk : k < L.ca.length) : openE L [(f : Int)] [(s : Int)] k = 0 :=
  openE_val hf (fun x hx => by simp at hx; omega) (fun y hy => by simp at hy; omega) (by omega)
theorem eT_src {L : Lnd} {out : Int} {f s k : Nat} (hs : s ≤ L.su.length) : eT L out f s k f = s := (eT_is hs).init
theorem sureTo_const {g : Nat → Nat} {s : Nat} : ∀ {m : Nat}, 0 < m → (∀ k, k < m → g k = s) → sureTo g m = ((s : Int), 0)
  | 0, h, _ => by omega
  | m + 1, _, hg => by
    simp only [sureTo]
    rcases Nat.eq_zero_or_pos m with rfl | hm
    · rw [show (sureTo g 0).1 = -1 from rfl, if_pos (by omega), hg 0 (by omega)]
    · rw [sureTo_const hm (fun k hk => hg k (by omega)), if_neg (by rw [hg m (by omega)]; simp)]
theorem home_sHr {L : Lnd} {out : Int} {f s : Nat} (hc : 0 < L.ca.length) (hs : s ≤ L.su.length) : sHr L out f f s = s := by
  unfold sHr
  rw [sureTo_const hc (fun k _ => eT_src hs)]
theorem home_sure {L : Lnd} {f s : Nat} (h : openE L [(f : Int), f] [(s : Int)] 0 = 0) : sureR L f f s = ((s : Int), 0, 0) := by
  obtain ⟨hf, hst, hti, _, hc⟩ := openE_zero h
  obtain ⟨_, s1⟩ := hti s (by simp)
  unfold sureR
  rw [if_neg (by simpa using h)]
  simp only [Int.toNat_natCast]
  rw [sureTo_const (by omega) (fun k _ => eT_src (by omega)), if_neg (by omega)]
  rfl
theorem home_latest {L : Lnd} {f s : Nat} (h : openE L [(f : Int), f] [(s : Int)] 0 = 0) : latestR L f f s = ((s : Int), 0) := by
  obtain ⟨hf, hst, hti, _, hc⟩ := openE_zero h
  obtain ⟨_, s1⟩ := hti s (by simp)
  unfold latestR
  rw [if_neg (by simpa using h), find_first (i := 0) (by omega) ?_ (fun j hj => by omega)]
  · simp
  · refine decide_eq_true ?_
    simp only [Int.toNat_natCast, Nat.sub_zero]
    rw [home_sHr (by omega) (by omega)]
    exact Int.le_refl _
theorem home_vital {L : Lnd} {f s : Nat} (h : openE L [(f : Int), f] [(s : Int)] 0 = 0) : vitalR L f f s = ([], 0) := by
  obtain ⟨hf, hst, hti, _, hc⟩ := openE_zero h
  obtain ⟨_, s1⟩ := hti s (by simp)
  unfold vitalR
  simp only [Int.toNat_natCast]
  rw [if_neg (by simpa using h), if_neg (by rw [home_sHr (by omega) (by omega)]; omega)]
  congr 1
  unfold fiTo
  rw [List.filter_eq_nil_iff.2 (fun i _ => ?_)]
  · rfl
  · unfold vitB
    rw [home_sHr (by omega) (by omega)]
    simp; omega
theorem home_route {L : Lnd} {f s : Nat} (h : openE L [(f : Int), f] [(s : Int)] 0 = 0) : routeR L f f s = ([], (s : Int), 0) := by
  obtain ⟨hf, hst, hti, _, hc⟩ := openE_zero h
  obtain ⟨_, s1⟩ := hti s (by simp)
  unfold routeR
  rw [if_neg (by simpa using h)]
  simp only [Int.toNat_natCast]
  rw [show L.su.length + 1 - s = (L.su.length - s) + 1 by omega]
  simp only [firstP, Nat.sub_self, bestN, if_true]
theorem home_prove {L : Lnd} {f s : Nat} (h : openE L [(f : Int), f] [(s : Int)] 0 = 0) : PrRoute L f f s [] s := by
  obtain ⟨hf, hst, hti, hk⟩ := openE_zero h
  refine ⟨openE_val hf hst (fun y hy => hti y (by simpa using hy)) hk, by simp, s, rfl, fun i x hx => by simp at hx, Int.le_refl _⟩
end Go.Proofs.Ytdfohielnfdmkaa

