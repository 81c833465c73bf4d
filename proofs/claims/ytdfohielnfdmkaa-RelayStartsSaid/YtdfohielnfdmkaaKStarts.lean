/- For every input the law RelayStarts returns true, and the input reads as it did. No condition. -/
import Derived.Test.YtdfohielnfdmkaaKW
import Derived.Test.YtdfohielnfdmkaaKR
set_option linter.unusedVariables false
set_option linter.unusedSimpArgs false
/- Plain laws: the latest start, and starts before and behind it. -/
set_option linter.unusedVariables false
namespace Go.Proofs.Ytdfohielnfdmkaa
open Go.RowKit

theorem sHr_mono {L : Lnd} {out : Int} {f t s s' : Nat} (hs : s ≤ L.su.length) (ht : t < L.st.length) (h : s' ≤ s) : sHr L out f t s' ≤ sHr L out f t s := by
  unfold sHr
  refine sureTo_hi _ _ (sureTo_lo _ _) _ fun k hk => ?_
  have h1 := sureTo_ge (fun k => eT L out f s k t) L.ca.length k hk
  have h2 := (eT_is (L := L) (out := out) (src := f) (k := k) hs).earlier (eT_is (start := s') (by omega)) h t ht
  omega
/-- The sure hour, read off its number. -/
theorem sure_of {L : Lnd} {f t s : Nat} (h : openE L [(f : Int), t] [(s : Int)] 0 = 0) :
    ((L.su.length : Int) < sHr L (-1) f t s → sureR L f t s = (0, 0, 10)) ∧ (¬ (L.su.length : Int) < sHr L (-1) f t s → ∃ k : Int, sureR L f t s = (sHr L (-1) f t s, k, 0)) := by
  have e : sureR L f t s = if (L.su.length : Int) < sHr L (-1) f t s then (0, 0, 10) else (sHr L (-1) f t s, ((sureTo (fun k => eT L (-1) f s k t) L.ca.length).2 : Int), 0) := by
    unfold sureR
    rw [if_neg (by simpa using h)]
    rfl
  rw [e]
  exact ⟨fun h => by rw [if_pos h], fun h => ⟨_, by rw [if_neg h]⟩⟩
/-- What the law says of the latest start. -/
structure StartsOk (L : Lnd) (f t b s : Nat) : Prop where
  err : (sureR L f t s).2.2 = 0 ∨ (sureR L f t s).2.2 = 10
  no : ∀ p : Int × Int, p = latestR L f t b → p.2 ≠ 0 → p.2 = 10 ∧ ¬ ((sureR L f t s).2.2 = 0 ∧ (sureR L f t s).1 ≤ b)
  yes : ∀ p : Int × Int, p = latestR L f t b → p.2 = 0 → ∃ n : Nat, p.1 = n ∧ n ≤ L.su.length ∧ (sureR L f t n).2.2 = 0 ∧ (sureR L f t n).1 ≤ b ∧ (((sureR L f t s).2.2 = 0 ∧ (sureR L f t s).1 ≤ b) ↔ s ≤ n)
theorem starts_ok {L : Lnd} {f t b s : Nat} (hf : faultL L = 0) (h1 : f < L.st.length) (h2 : t < L.st.length) (hb : b ≤ L.su.length) (hs : s ≤ L.su.length) : StartsOk L f t b s := by
  have ok := okay_of hf
  have hc := ok.c0
  have hin : ∀ x, x ≤ L.su.length → (((sureR L f t x).2.2 = 0 ∧ (sureR L f t x).1 ≤ b) ↔ sHr L (-1) f t x ≤ b) := by
    intro x hx
    obtain ⟨e1, e2⟩ := sure_of (open2_val (s := x) hf h1 h2 hx)
    by_cases hE : (L.su.length : Int) < sHr L (-1) f t x
    · rw [e1 hE]
      constructor
      · rintro ⟨h, _⟩; cases h
      · intro h; omega
    · obtain ⟨k, e⟩ := e2 hE
      rw [e]
      simp
  have hge : ∀ x, x ≤ L.su.length → (x : Int) ≤ sHr L (-1) f t x := fun x hx => sHr_ge hx h2 hc
  have hL : latestR L f t b = match (List.range (b + 1)).find? fun i => decide (sHr L (-1) f t (b - i) ≤ (b : Int)) with
      | some i => (((b : Int) - i), 0)
      | none => (0, 10) := by
    unfold latestR
    rw [if_neg (by simpa using open2_val (s := b) hf h1 h2 hb)]
    rfl
  have herr : (sureR L f t s).2.2 = 0 ∨ (sureR L f t s).2.2 = 10 := by
    obtain ⟨e1, e2⟩ := sure_of (open2_val (s := s) hf h1 h2 hs)
    by_cases hE : (L.su.length : Int) < sHr L (-1) f t s
    · rw [e1 hE]; exact .inr rfl
    · obtain ⟨k, e⟩ := e2 hE
      rw [e]; exact .inl rfl
  cases hfd : (List.range (b + 1)).find? fun i => decide (sHr L (-1) f t (b - i) ≤ (b : Int)) with
  | none =>
    rw [hfd] at hL
    have hno := List.find?_eq_none.1 hfd
    refine ⟨herr, fun p hp hne => ?_, fun p hp h0 => ?_⟩
    · rw [hL] at hp
      subst hp
      refine ⟨rfl, fun h => ?_⟩
      have h3 := (hin s hs).1 h
      have h4 := hge s hs
      have := hno (b - s) (List.mem_range.2 (by omega))
      rw [show b - (b - s) = s by omega] at this
      simp only [decide_eq_true_eq] at this
      exact this h3
    · rw [hL] at hp; subst hp; cases h0
  | some i =>
    rw [hfd] at hL
    obtain ⟨hq, hmem, hmin⟩ := List.find?_range_eq_some.1 hfd
    have hi := List.mem_range.1 hmem
    simp only [decide_eq_true_eq] at hq
    refine ⟨herr, fun p hp hne => ?_, fun p hp h0 => ?_⟩
    · rw [hL] at hp; subst hp; exact absurd rfl hne
    · rw [hL] at hp
      subst hp
      refine ⟨b - i, by simp only; omega, by omega, ((hin (b - i) (by omega)).2 hq).1, ((hin (b - i) (by omega)).2 hq).2, ?_⟩
      rw [hin s hs]
      constructor
      · intro h3
        have h4 := hge s hs
        rcases Nat.lt_or_ge (b - i) s with hlt | hle
        · have := hmin (b - s) (by omega)
          rw [show b - (b - s) = s by omega] at this
          simp at this
          omega
        · exact hle
      · intro hle
        exact Int.le_trans (sHr_mono (by omega) h2 hle) hq
end Go.Proofs.Ytdfohielnfdmkaa

/- Walks: the law RelayStarts. -/
set_option linter.unusedVariables false
set_option linter.unusedSimpArgs false
namespace Go.Proofs.Ytdfohielnfdmkaa
open Go.RowKit
attribute [local go_sem low] cell_alloc_ite frozen_alloc_ite ov_cell ov_frozen

set_option maxRecDepth 100000 in
set_option maxHeartbeats 8000000 in
theorem startsLaw_ready (V : LV) (L : Lnd) (a o c d : Nat) (w : World) (hraw : RawL w V L) (hrb : readyB L = true) (ha : a ≤ 255) (ho : o ≤ 255) (hc : c ≤ 255) (hd : d ≤ 255) :
    Calls Try.prog 3 #[vLnd V L, .int .u8 a, .int .u8 o, .int .u8 c, .int .u8 d] w fun e w' => e = .returned (.bool true) ∧ Below w.heap.size w w' := by
  obtain ⟨hth, hf⟩ := ready_fault hrb
  have hr := hraw.thin hth
  have ok := okay_of hf
  have hok0 : 0 < L.st.length := ok.s0
  have hok2 : 0 < L.ca.length := ok.c0
  have l3 := hr.l3
  have HT := Lib.hid (fun W (hW : Below w.heap.size w W) => by have h := ready_any V L W ⟨hraw.st.kept (kept_of_below hW), hraw.ri.kept (kept_of_below hW), hraw.ca.kept (kept_of_below hW), hraw.su.kept (kept_of_below hW), hraw.k0, hraw.k1, hraw.k2, hraw.k3⟩; rw [hrb] at h; exact h)
  have HL := Lib.hid (fun W (hW : Below w.heap.size w W) => landB_any V L w W hr hW)
  have HE := Lib.hid (fun W => rend_any V L W l3)
  have HN := Lib.hid (fun W (hW : Below w.heap.size w W) => numbers_any V L a d 0 W (hr.below hW) ha hd (by omega) hok0 hok2)
  have HN2 := Lib.hid (fun W (hW : Below w.heap.size w W) => numbers_any V L o c 0 W (hr.below hW) ho hc (by omega) hok0 hok2)
  have hf1 : a % L.st.length < L.st.length := Nat.mod_lt _ hok0
  have hs1 : d % (L.su.length + 1) < L.su.length + 1 := Nat.mod_lt _ (by omega)
  have ht1 : o % L.st.length < L.st.length := Nat.mod_lt _ hok0
  have hb1' : c % (L.su.length + 1) < L.su.length + 1 := Nat.mod_lt _ (by omega)
  generalize hfe : a % L.st.length = f at *
  generalize hse : d % (L.su.length + 1) = s at *
  generalize hte : o % L.st.length = t at *
  generalize hbe : c % (L.su.length + 1) = b at *
  have HO := starts_ok (L := L) (f := f) (t := t) (b := b) (s := s) hf hf1 ht1 (by omega) (by omega)
  have HP := Lib.hid HO
  obtain ⟨a0, c0, a1, c1, a2, c2, a3, c3⟩ := V
  simp only [vLnd] at *
  clear hr hraw hth hrb ok hf HO
  go_enter Try.func3, Try.ntmps3
  go_wp2_with fail
  generalize hA : w.alloc (.cells #[.slice a0 L.st.length c0, .slice a1 L.ri.length c1, .slice a2 L.ca.length c2, .slice a3 L.su.length c3] 27) = wA
  have hBA : Below w.heap.size w wA := by subst hA; (repeat (first | exact Below.refl _ _ | (with_reducible exact Hid.out (by assumption)) | refine below_al ?_ _ | refine below_dr ?_ | refine below_tr ?_ (by assumption) | refine below_tr ?_ (Bel.out (by assumption)) | refine below_tr ?_ (Bel.out (ov_bel _ _)) | refine below_set ?_ (by simp; try omega)))
  have hbox : CellsAt wA w.heap.size [.slice a0 L.st.length c0, .slice a1 L.ri.length c1, .slice a2 L.ca.length c2, .slice a3 L.su.length c3] := by subst hA; exact cells4 (by (try go_simp); (repeat (simp only [↓IntWalk.iteOmega]; (try go_simp))); (try omega)) (by (try go_simp); (repeat (simp only [↓IntWalk.iteOmega]; (try go_simp))); (try omega)) (by (try go_simp); (repeat (simp only [↓IntWalk.iteOmega]; (try go_simp))); (try omega)) (by (try go_simp); (repeat (simp only [↓IntWalk.iteOmega]; (try go_simp))); (try omega))
  clear hA
  replace hBA := Lib.hid hBA
  replace hbox := Lib.hid hbox
  refine (HT.out _ hBA.out).mono ?_
  rintro e w1 ⟨rfl, hb1⟩
  have x0 := (kept_of_below hb1) _ _ (hbox.out 0 _ rfl)
  have x1 := (kept_of_below hb1) _ _ (hbox.out 1 _ rfl)
  have x2 := (kept_of_below hb1) _ _ (hbox.out 2 _ rfl)
  have x3 := (kept_of_below hb1) _ _ (hbox.out 3 _ rfl)
  replace hb1 := Lib.hid hb1
  go_wp2_with fail
  refine (HN.out _ (below_tr hBA.out hb1.out)).mono ?_
  rintro e w2 ⟨rfl, hb2⟩
  have hb2' := below_tr hb1.out hb2
  clear hb1 hb2 x0 x1 x2 x3
  have x0 := (kept_of_below hb2') _ _ (hbox.out 0 _ rfl)
  have x1 := (kept_of_below hb2') _ _ (hbox.out 1 _ rfl)
  have x2 := (kept_of_below hb2') _ _ (hbox.out 2 _ rfl)
  have x3 := (kept_of_below hb2') _ _ (hbox.out 3 _ rfl)
  replace hb2' := Lib.hid hb2'
  go_wp2_with fail
  refine (HN2.out _ (below_tr hBA.out hb2'.out)).mono ?_
  rintro e w3 ⟨rfl, hb3⟩
  have hb3' := below_tr hb2'.out hb3
  clear hb2' hb3 x0 x1 x2 x3
  have x0 := (kept_of_below hb3') _ _ (hbox.out 0 _ rfl)
  have x1 := (kept_of_below hb3') _ _ (hbox.out 1 _ rfl)
  have x2 := (kept_of_below hb3') _ _ (hbox.out 2 _ rfl)
  have x3 := (kept_of_below hb3') _ _ (hbox.out 3 _ rfl)
  replace hb3' := Lib.hid hb3'
  go_wp2_with fail
  refine (HL.out _ (below_tr hBA.out hb3'.out)).mono ?_
  rintro e w4 ⟨V1, rfl, hr1, hb4⟩
  clear x0 x1 x2 x3
  have hb4' := Lib.hid (below_tr hb3'.out hb4)
  replace hr1 := Lib.hid hr1
  clear hb3' hb4
  go_wp2_with fail
  refine (latestTop_any V1 L f t b w4 hr1.out).mono ?_
  unfold PairTop
  obtain ⟨p, hp⟩ : ∃ p, p = latestR L f t b := ⟨_, rfl⟩
  rw [← hp]
  have hpno := HP.out.no p hp
  have hpyes := HP.out.yes p hp
  obtain ⟨p1, p2⟩ := p
  simp only at hpno hpyes
  replace hpno := Lib.hid hpno
  replace hpyes := Lib.hid hpyes
  clear hp
  simp only
  rintro e w5 ⟨rfl, hb5⟩
  have hb5' := below_tr hb4'.out hb5
  clear hb4' hb5 hr1
  have x0 := (kept_of_below hb5') _ _ (hbox.out 0 _ rfl)
  have x1 := (kept_of_below hb5') _ _ (hbox.out 1 _ rfl)
  have x2 := (kept_of_below hb5') _ _ (hbox.out 2 _ rfl)
  have x3 := (kept_of_below hb5') _ _ (hbox.out 3 _ rfl)
  replace hb5' := Lib.hid hb5'
  go_wp2_with fail
  refine (HL.out _ (below_tr hBA.out hb5'.out)).mono ?_
  rintro e w6 ⟨V2, rfl, hr2, hb6⟩
  clear x0 x1 x2 x3
  have hb6' := Lib.hid (below_tr hb5'.out hb6)
  replace hr2 := Lib.hid hr2
  clear hb5' hb6
  go_wp2_with fail
  refine (sureTop_any V2 L f t s w6 hr2.out).mono ?_
  unfold SureTop
  have herr := HP.out.err
  generalize sureR L f t s = r at *
  obtain ⟨h, k, f1⟩ := r
  simp only at herr hpno hpyes
  simp only
  rintro e w7 ⟨rfl, hb7⟩
  have hb7' := below_tr hb6'.out hb7
  clear hb6' hb7 hr2 HP
  have x0 := (kept_of_below hb7') _ _ (hbox.out 0 _ rfl)
  have x1 := (kept_of_below hb7') _ _ (hbox.out 1 _ rfl)
  have x2 := (kept_of_below hb7') _ _ (hbox.out 2 _ rfl)
  have x3 := (kept_of_below hb7') _ _ (hbox.out 3 _ rfl)
  have hl7 := cell_lt x0
  simp only at hl7
  replace hb7' := Lib.hid hb7'
  by_cases h0 : p2 = 0
  · obtain ⟨n, hn, hnE, hi, hg, hiff⟩ := hpyes.out h0
    subst h0 hn
    clear hpno hpyes
    rcases herr with rfl | rfl
    · by_cases hle : h ≤ b
      · have hsn : s ≤ n := hiff.1 ⟨rfl, hle⟩
        clear hiff
        go_wp2_with fail
        refine (HL.out _ (below_tr hBA.out hb7'.out)).mono ?_
        rintro e w8 ⟨V3, rfl, hr3, hb8⟩
        clear x0 x1 x2 x3
        have hb8' := Lib.hid (below_tr hb7'.out hb8)
        replace hr3 := Lib.hid hr3
        clear hb7' hb8
        go_wp2_with fail
        refine (sureTop_any V3 L f t n w8 hr3.out).mono ?_
        unfold SureTop
        generalize sureR L f t n = r2 at *
        obtain ⟨g, k2, i2⟩ := r2
        simp only at hg hi
        subst hi
        simp only
        rintro e w9 ⟨rfl, hb9⟩
        have hb9' := below_tr hb8'.out hb9
        clear hb8' hb9 hr3
        have x0 := (kept_of_below hb9') _ _ (hbox.out 0 _ rfl)
        have x1 := (kept_of_below hb9') _ _ (hbox.out 1 _ rfl)
        have x2 := (kept_of_below hb9') _ _ (hbox.out 2 _ rfl)
        have x3 := (kept_of_below hb9') _ _ (hbox.out 3 _ rfl)
        replace hb9' := Lib.hid hb9'
        go_wp2_with (go_at_call 13; refine (HE.out _).mono ?_; rintro e w' ⟨rfl, hb⟩; obtain ⟨hc, hf⟩ := bcell hb; have hz := hb.size; try simp at hz)
        refine (awake_any _).mono ?_
        rintro e w10 ⟨rfl, hb10⟩
        have hfin := Lib.hid (below_tr hBA.out (below_tr (below_tr hb9'.out hb) hb10))
        clear hb10 hb hc hf hz
        go_wp2_with fail
        go_ret
        exact ⟨rfl, hfin.out⟩
      · have hsn : ¬ s ≤ n := fun hh => hle (hiff.2 hh).2
        clear hiff
        go_wp2_with fail
        refine (HL.out _ (below_tr hBA.out hb7'.out)).mono ?_
        rintro e w8 ⟨V3, rfl, hr3, hb8⟩
        clear x0 x1 x2 x3
        have hb8' := Lib.hid (below_tr hb7'.out hb8)
        replace hr3 := Lib.hid hr3
        clear hb7' hb8
        go_wp2_with fail
        refine (sureTop_any V3 L f t n w8 hr3.out).mono ?_
        unfold SureTop
        generalize sureR L f t n = r2 at *
        obtain ⟨g, k2, i2⟩ := r2
        simp only at hg hi
        subst hi
        simp only
        rintro e w9 ⟨rfl, hb9⟩
        have hb9' := below_tr hb8'.out hb9
        clear hb8' hb9 hr3
        have x0 := (kept_of_below hb9') _ _ (hbox.out 0 _ rfl)
        have x1 := (kept_of_below hb9') _ _ (hbox.out 1 _ rfl)
        have x2 := (kept_of_below hb9') _ _ (hbox.out 2 _ rfl)
        have x3 := (kept_of_below hb9') _ _ (hbox.out 3 _ rfl)
        replace hb9' := Lib.hid hb9'
        go_wp2_with (go_at_call 13; refine (HE.out _).mono ?_; rintro e w' ⟨rfl, hb⟩; obtain ⟨hc, hf⟩ := bcell hb; have hz := hb.size; try simp at hz)
        refine (awake_any _).mono ?_
        rintro e w10 ⟨rfl, hb10⟩
        have hfin := Lib.hid (below_tr hBA.out (below_tr (below_tr hb9'.out hb) hb10))
        clear hb10 hb hc hf hz
        go_wp2_with fail
        go_ret
        exact ⟨by (simp [hle]), hfin.out⟩
    · have hsn : ¬ s ≤ n := fun hh => absurd (hiff.2 hh).1 (by decide)
      clear hiff
      go_wp2_with fail
      refine (HL.out _ (below_tr hBA.out hb7'.out)).mono ?_
      rintro e w8 ⟨V3, rfl, hr3, hb8⟩
      clear x0 x1 x2 x3
      have hb8' := Lib.hid (below_tr hb7'.out hb8)
      replace hr3 := Lib.hid hr3
      clear hb7' hb8
      go_wp2_with fail
      refine (sureTop_any V3 L f t n w8 hr3.out).mono ?_
      unfold SureTop
      generalize sureR L f t n = r2 at *
      obtain ⟨g, k2, i2⟩ := r2
      simp only at hg hi
      subst hi
      simp only
      rintro e w9 ⟨rfl, hb9⟩
      have hb9' := below_tr hb8'.out hb9
      clear hb8' hb9 hr3
      have x0 := (kept_of_below hb9') _ _ (hbox.out 0 _ rfl)
      have x1 := (kept_of_below hb9') _ _ (hbox.out 1 _ rfl)
      have x2 := (kept_of_below hb9') _ _ (hbox.out 2 _ rfl)
      have x3 := (kept_of_below hb9') _ _ (hbox.out 3 _ rfl)
      replace hb9' := Lib.hid hb9'
      go_wp2_with (go_at_call 13; refine (HE.out _).mono ?_; rintro e w' ⟨rfl, hb⟩; obtain ⟨hc, hf⟩ := bcell hb; have hz := hb.size; try simp at hz)
      refine (awake_any _).mono ?_
      rintro e w10 ⟨rfl, hb10⟩
      have hfin := Lib.hid (below_tr hBA.out (below_tr (below_tr hb9'.out hb) hb10))
      clear hb10 hb hc hf hz
      go_wp2_with fail
      go_ret
      exact ⟨rfl, hfin.out⟩
  · obtain ⟨rfl, hnin⟩ := hpno.out h0
    clear hpno hpyes h0
    rcases herr with rfl | rfl
    · have hle : ¬ h ≤ b := fun hh => hnin ⟨rfl, hh⟩
      clear hnin
      go_wp2_with fail
      refine (awake_any _).mono ?_
      rintro e w8 ⟨rfl, hb8⟩
      replace hb8 := Lib.hid hb8
      go_wp2_with fail
      go_ret
      exact ⟨by (simp [hle]), below_tr hBA.out (below_tr hb7'.out hb8.out)⟩
    · clear hnin
      go_wp2_with fail
      refine (awake_any _).mono ?_
      rintro e w8 ⟨rfl, hb8⟩
      replace hb8 := Lib.hid hb8
      go_wp2_with fail
      go_ret
      exact ⟨rfl, below_tr hBA.out (below_tr hb7'.out hb8.out)⟩

set_option maxRecDepth 100000 in
set_option maxHeartbeats 8000000 in
theorem startsLaw_any (V : LV) (L : Lnd) (a o c d : Nat) (w : World) (hr : RawL w V L) (ha : a ≤ 255) (ho : o ≤ 255) (hc : c ≤ 255) (hd : d ≤ 255) :
    Calls Try.prog 3 #[vLnd V L, .int .u8 a, .int .u8 o, .int .u8 c, .int .u8 d] w fun e w' => e = .returned (.bool true) ∧ Below w.heap.size w w' := by
  cases hrb : readyB L with
  | true => exact startsLaw_ready V L a o c d w hr hrb ha ho hc hd
  | false =>
    have HT := Lib.hid (fun W (hW : Below w.heap.size w W) => by have h := ready_any V L W ⟨hr.st.kept (kept_of_below hW), hr.ri.kept (kept_of_below hW), hr.ca.kept (kept_of_below hW), hr.su.kept (kept_of_below hW), hr.k0, hr.k1, hr.k2, hr.k3⟩; rw [hrb] at h; exact h)
    obtain ⟨a0, c0, a1, c1, a2, c2, a3, c3⟩ := V
    simp only [vLnd] at *
    clear hr hrb
    go_enter Try.func3, Try.ntmps3
    go_wp2_with (first | (go_at_call 7; refine (HT.out _ (by (repeat (first | exact Below.refl _ _ | (with_reducible exact Hid.out (by assumption)) | refine below_al ?_ _ | refine below_dr ?_ | refine below_tr ?_ (by assumption) | refine below_tr ?_ (Bel.out (by assumption)) | refine below_tr ?_ (Bel.out (ov_bel _ _)) | refine below_set ?_ (by simp; try omega))))).mono ?_; rintro e w' ⟨rfl, hb⟩; obtain ⟨hc, hf⟩ := bcell hb; have hz := hb.size; try simp at hz) | (go_at_call 8; refine (awake_any _).mono ?_; rintro e w' ⟨rfl, hb⟩; obtain ⟨hc, hf⟩ := bcell hb; have hz := hb.size; try simp at hz))
    go_ret
    exact ⟨rfl, by (repeat (first | exact Below.refl _ _ | (with_reducible exact Hid.out (by assumption)) | refine below_al ?_ _ | refine below_dr ?_ | refine below_tr ?_ (by assumption) | refine below_tr ?_ (Bel.out (by assumption)) | refine below_tr ?_ (Bel.out (ov_bel _ _)) | refine below_set ?_ (by simp; try omega)))⟩
end Go.Proofs.Ytdfohielnfdmkaa

/- For every input the law RelayStarts returns true, and the input reads as it did. No condition. -/
set_option linter.unusedVariables false
namespace Go.Proofs.Ytdfohielnfdmkaa
open Go.ChangeShapes Go.WideShapes Go.ChangeAt Go.RowKit

set_option maxRecDepth 100000 in
theorem starts_lifted (os : Os) (started : os.Started) (H : Type) (enc : TypeId × Value → H) :
    ReturnsInHanded {} Try.checked os 3 .any (Rows.relayStartsSpec.pre6 enc Try.prog Try.f3 Rows.relayStartsRow.domain false) (Rows.relayStartsSpec.post enc Try.prog Try.f3 false true false false) := by
  refine returnsInHanded_of_change (C := Try.checked) own started (by kernel_rfl) Try.func3
    (ChangeSpec.witness6 (enc := enc) (C := Try.checked) false ⟨#[], #[.agg #[.slice none 0 0, .slice none 0 0, .slice none 0 0, .slice none 0 0], .int .u8 0, .int .u8 0, .int .u8 0, .int .u8 0], []⟩ 8 (by kernel_rfl) (by kernel_rfl) (by kernel_rfl) (by kernel_rfl)) ?_
  intro W base args ds gs before hval0 hW hcnd _
  have hval : ∀ (j : Nat) t v, Try.f3.params[j]? = some t → args[j]? = some v → Value.okWide Try.prog W .any base t v := hval0
  have hW' := hW
  obtain ⟨p, q, hA0, hV, rfl, hfz, hnd⟩ := hW
  have hA : DataW.TrodAll enc Try.prog W 0 (fun _ => true) true Try.f3.params.toList args.toList ds p := hA0
  rw [Try.params3] at hA hval
  obtain ⟨v0, vs0, d0, ds0, p0, q0, hargs, rfl, rfl, h0, r0⟩ := trodAll_cons hA
  obtain ⟨v1, vs1, d1, ds1, p1, q1, rfl, rfl, rfl, h1, r1⟩ := trodAll_cons r0
  obtain ⟨v2, vs2, d2, ds2, p2, q2, rfl, rfl, rfl, h2, r2⟩ := trodAll_cons r1
  obtain ⟨v3, vs3, d3, ds3, p3, q3, rfl, rfl, rfl, h3, r3⟩ := trodAll_cons r2
  obtain ⟨v4, vs4, d4, ds4, p4, q4, rfl, rfl, rfl, h4, r4⟩ := trodAll_cons r3
  obtain ⟨rfl, rfl, rfl⟩ := trodAll_nil r4
  obtain rfl : args = #[v0, v1, v2, v3, v4] := by cases args; simp_all
  obtain ⟨rfl, rfl⟩ := trodVars_none hV
  obtain ⟨V, L, rfl, hraw⟩ := open_land (hval 0 27 v0 rfl rfl) h0
  obtain ⟨a1, rfl, rfl, rfl, w1⟩ := open_int Try.underlying5 (hval 1 5 v1 rfl rfl) h1
  obtain ⟨a2, rfl, rfl, rfl, w2⟩ := open_int Try.underlying5 (hval 2 5 v2 rfl rfl) h2
  obtain ⟨a3, rfl, rfl, rfl, w3⟩ := open_int Try.underlying5 (hval 3 5 v3 rfl rfl) h3
  obtain ⟨a4, rfl, rfl, rfl, w4⟩ := open_int Try.underlying5 (hval 4 5 v4 rfl rfl) h4
  obtain ⟨k1, l1⟩ := bounds_u8 w1
  obtain ⟨k2, l2⟩ := bounds_u8 w2
  obtain ⟨k3, l3⟩ := bounds_u8 w3
  obtain ⟨k4, l4⟩ := bounds_u8 w4
  obtain ⟨n1, rfl⟩ := Int.eq_ofNat_of_zero_le k1
  obtain ⟨n2, rfl⟩ := Int.eq_ofNat_of_zero_le k2
  obtain ⟨n3, rfl⟩ := Int.eq_ofNat_of_zero_le k3
  obtain ⟨n4, rfl⟩ := Int.eq_ofNat_of_zero_le k4
  clear hA0 hval0
  simp only [List.append_nil] at hW'
  have hlt : ∀ x ∈ p0, x.block < W.heap.size := fun x hx => hW'.lt x (by simpa using hx)
  refine (startsLaw_any V L n1 n2 n3 n4 W hraw (by omega) (by omega) (by omega) (by omega)).mono fun e W' ⟨he, hg⟩ => ?_
  subst he
  exact ⟨_, rfl, post_below (pa := p0 ++ ([] ++ ([] ++ ([] ++ ([] ++ []))))) (pv := []) hW' (fun _ _ _ => (trodAll_cons_mk (shut_bool Try.underlying4 _) trodAll_mk0))
    (fun sp hsp => (trodAll_cons_mk (WideElems.Trod_stays laidOut landRead landRow h0 (sp' := sp) (fun x hx => hg.same (hlt x hx)) (fun x hx => hsp x (by simpa using hx))) (trodAll_cons_mk (shut_int Try.underlying5 w1) (trodAll_cons_mk (shut_int Try.underlying5 w2) (trodAll_cons_mk (shut_int Try.underlying5 w3) (trodAll_cons_mk (shut_int Try.underlying5 w4) trodAll_mk0))))))
    (fun _ _ => rfl) (by simp) hg (ok_one (by kernel_rfl) rfl (okWide_bool_mk Try.underlying4 _))⟩

theorem starts_over : Rows.relayStartsRow.holds Try.pinned (OpenSpec.ofChange Rows.relayStartsSpec) :=
  OpenClaim.holds_of_wide 3 Try.f3 rfl rfl rfl rfl rfl rfl rfl ⟨rfl, rfl, rfl, rfl, rfl⟩ rfl rfl rfl rfl rfl (by kernel_rfl) Try.func3 (by kernel_rfl)
    (of_decide_eq_true (by kernel_rfl)) (by unfold Func.isWrapper; first | (rw [if_pos (by decide +kernel)]; kernel_rfl) | (rw [if_neg (by decide +kernel)]; exact ⟨rfl, rfl⟩))
    (fun os started H enc _ => starts_lifted os started H enc)

theorem starts_proved : Rows.RelayStartsSaid := starts_over
#print axioms starts_proved
end Go.Proofs.Ytdfohielnfdmkaa

