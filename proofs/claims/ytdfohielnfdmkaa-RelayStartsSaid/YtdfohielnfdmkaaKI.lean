/- Part KI of the proof: S6. -/
import Derived.Test.YtdfohielnfdmkaaKH
set_option linter.unusedVariables false
set_option linter.unusedSimpArgs false
/- Walks: the reference of the hill: the error of a land. -/
set_option linter.unusedVariables false
set_option linter.unusedSimpArgs false
namespace Go.Proofs.Ytdfohielnfdmkaa
open Go.RowKit
attribute [local go_sem low] cell_alloc_ite frozen_alloc_ite ov_cell ov_frozen

/-- The lengths alone. -/
def lensOk (L : Lnd) : Prop := L.st.length ≤ 6 ∧ L.ri.length ≤ 6 ∧ L.ca.length ≤ 4 ∧ L.su.length ≤ 12
theorem fault3_len {L : Lnd} (h : ¬ lensOk L) : faultL L = 3 := by
  unfold faultL limL
  rw [if_pos]
  unfold lensOk at h
  simp only [Bool.or_eq_true, decide_eq_true_eq]
  omega
theorem fault3_case {L : Lnd} {k : Nat} {x : List Clo} (hk : L.ca[k]? = some x) (hx : 4 < x.length) : faultL L = 3 := by
  unfold faultL limL
  rw [if_pos]
  simp only [Bool.or_eq_true, List.any_eq_true, decide_eq_true_eq]
  exact .inr ⟨x, List.mem_of_getElem? hk, hx⟩
theorem lim_no {L : Lnd} (h : lensOk L) (hc : ∀ (k : Nat) (x : List Clo), L.ca[k]? = some x → x.length ≤ 4) : limL L = false := by
  unfold lensOk at h
  unfold limL
  simp only [Bool.or_eq_false_iff, decide_eq_false_iff_not, List.any_eq_false, decide_eq_true_eq]
  refine ⟨⟨⟨⟨by omega, by omega⟩, by omega⟩, by omega⟩, fun x hx => ?_⟩
  obtain ⟨k, hk⟩ := List.mem_iff_getElem?.1 hx
  have := hc k x hk
  omega
theorem fault1 {L : Lnd} (hl : limL L = false) (hb : badL L = true) : faultL L = 1 := by unfold faultL; rw [if_neg (by rw [hl]; simp), if_pos hb]
theorem bad_sta {L : Lnd} {k : Nat} {x : Sta} (hk : L.st[k]? = some x) (hx : staOk x = false) : badL L = true := by
  have : L.st.all staOk = false := by rw [List.all_eq_false]; exact ⟨x, List.mem_of_getElem? hk, by simp [hx]⟩
  unfold badL; rw [this]; simp
theorem bad_rid {L : Lnd} {k : Nat} {x : Wal} (hk : L.ri[k]? = some x) (hx : ridOk x = false) : badL L = true := by
  have : L.ri.all ridOk = false := by rw [List.all_eq_false]; exact ⟨x, List.mem_of_getElem? hk, by simp [hx]⟩
  unfold badL; rw [this]; simp
theorem bad_sun {L : Lnd} {k : Nat} {x : Sun} (hk : L.su[k]? = some x) (hx : sunOk x = false) : badL L = true := by
  have : L.su.all sunOk = false := by rw [List.all_eq_false]; exact ⟨x, List.mem_of_getElem? hk, by simp [hx]⟩
  unfold badL; rw [this]; simp
theorem bad_clo {L : Lnd} {k m : Nat} {xs : List Clo} {x : Clo} (hk : L.ca[k]? = some xs) (hm : xs[m]? = some x) (hx : cloOk L.su.length x = false) : badL L = true := by
  have : (L.ca.all fun k => k.all (cloOk L.su.length)) = false := by
    rw [List.all_eq_false]
    exact ⟨xs, List.mem_of_getElem? hk, by rw [Bool.not_eq_true, List.all_eq_false]; exact ⟨x, List.mem_of_getElem? hm, by simp [hx]⟩⟩
  unfold badL; rw [this]; simp
theorem bad_apart {L : Lnd} {i k : Nat} {x y : Sta} (hi : L.st[i]? = some x) (hk : L.st[k]? = some y) (hlt : k < i) (hs : sameAt y x = true) : badL L = true := by
  have : apart L.st = false := by
    unfold apart
    rw [List.all_eq_false]
    refine ⟨i, List.mem_range.2 (List.getElem?_eq_some_iff.1 hi).1, ?_⟩
    rw [Bool.not_eq_true, List.all_eq_false]
    refine ⟨k, List.mem_range.2 hlt, ?_⟩
    rw [getD_of hi, getD_of hk, hs]; simp
  unfold badL; rw [this]; simp
theorem fault0 {L : Lnd} (hl : limL L = false) (h0 : ¬ (L.st.length = 0 ∨ L.ca.length = 0 ∨ L.su.length = 0)) (h1 : ∀ (k : Nat) x, L.st[k]? = some x → staOk x = true) (h2 : ∀ (i k : Nat) x y, L.st[i]? = some x → L.st[k]? = some y → k < i → sameAt y x = false)
    (h3 : ∀ (k : Nat) x, L.ri[k]? = some x → ridOk x = true) (h4 : ∀ (k m : Nat) xs x, L.ca[k]? = some xs → xs[m]? = some x → cloOk L.su.length x = true) (h5 : ∀ (k : Nat) x, L.su[k]? = some x → sunOk x = true) : faultL L = 0 := by
  have e1 : L.st.all staOk = true := by rw [List.all_eq_true]; intro x hx; obtain ⟨k, hk⟩ := List.mem_iff_getElem?.1 hx; exact h1 k x hk
  have e3 : L.ri.all ridOk = true := by rw [List.all_eq_true]; intro x hx; obtain ⟨k, hk⟩ := List.mem_iff_getElem?.1 hx; exact h3 k x hk
  have e5 : L.su.all sunOk = true := by rw [List.all_eq_true]; intro x hx; obtain ⟨k, hk⟩ := List.mem_iff_getElem?.1 hx; exact h5 k x hk
  have e4 : (L.ca.all fun k => k.all (cloOk L.su.length)) = true := by
    rw [List.all_eq_true]; intro xs hxs; obtain ⟨k, hk⟩ := List.mem_iff_getElem?.1 hxs
    rw [List.all_eq_true]; intro x hx; obtain ⟨m, hm⟩ := List.mem_iff_getElem?.1 hx; exact h4 k m xs x hk hm
  have e2 : apart L.st = true := by
    unfold apart
    rw [List.all_eq_true]; intro i hi
    rw [List.all_eq_true]; intro k hk
    have hi' := List.mem_range.1 hi
    have hk' := List.mem_range.1 hk
    have g1 := List.getElem?_eq_getElem hi'
    have g2 := List.getElem?_eq_getElem (show k < L.st.length by omega)
    rw [getD_of g1, getD_of g2, h2 i k _ _ g1 g2 hk']; rfl
  have eb : badL L = false := by
    unfold badL
    rw [e1, e2, e3, e4, e5, show decide (L.st.length = 0) = false from decide_eq_false (by omega), show decide (L.ca.length = 0) = false from decide_eq_false (by omega), show decide (L.su.length = 0) = false from decide_eq_false (by omega)]; rfl
  unfold faultL
  rw [if_neg (by rw [hl]; simp), if_neg (by rw [eb]; simp)]

set_option maxRecDepth 100000 in
set_option maxHeartbeats 16000000 in
theorem rfault_any (V : LV) (L : Lnd) (w : World) (hr : RdL w V L) :
    Calls Try.prog 18 #[vLnd V L] w fun e w' => e = .returned (.int .i64 (faultL L)) ∧ Below w.heap.size w w' := by
  have l0 := hr.l0
  have l1 := hr.l1
  have l2 := hr.l2
  have l3 := hr.l3
  by_cases hlen : lensOk L
  · have hlen' := hlen
    obtain ⟨n1, n2, n3, n4⟩ := hlen'
    obtain ⟨a0, c0, a1, c1, a2, c2, a3, c3⟩ := V
    have HR := Lib.hid hr
    have HLen := Lib.hid hlen
    have HI := Lib.hid (fun n lo hi W => in_any n lo hi W)
    obtain ⟨r, hrr⟩ : ∃ r, faultL L = r := ⟨_, rfl⟩
    rw [hrr]
    have HRR := Lib.hid hrr
    clear hr hlen hrr
    simp only [vLnd]
    go_enter Try.func18, Try.ntmps18
    go_wp2
    generalize hA : w.alloc (.cells #[.slice a0 L.st.length c0, .slice a1 L.ri.length c1, .slice a2 L.ca.length c2, .slice a3 L.su.length c3] 27) = wA
    have HBA : Hid (Below w.heap.size w wA) := Lib.hid (by subst hA; (repeat (first | exact Below.refl _ _ | (with_reducible exact Hid.out (by assumption)) | refine below_al ?_ _ | refine below_dr ?_ | refine below_tr ?_ (by assumption) | refine below_tr ?_ (Bel.out (by assumption)) | refine below_tr ?_ (Bel.out (ov_bel _ _)) | refine below_set ?_ (by simp; try omega))))
    have x0 : wA.cell? ⟨w.heap.size, 0, none⟩ = some (.slice a0 L.st.length c0) := by subst hA; exact (by (try go_simp); (repeat (simp only [↓IntWalk.iteOmega]; (try go_simp))); (try omega))
    have x1 : wA.cell? ⟨w.heap.size, 1, none⟩ = some (.slice a1 L.ri.length c1) := by subst hA; exact (by (try go_simp); (repeat (simp only [↓IntWalk.iteOmega]; (try go_simp))); (try omega))
    have x2 : wA.cell? ⟨w.heap.size, 2, none⟩ = some (.slice a2 L.ca.length c2) := by subst hA; exact (by (try go_simp); (repeat (simp only [↓IntWalk.iteOmega]; (try go_simp))); (try omega))
    have x3 : wA.cell? ⟨w.heap.size, 3, none⟩ = some (.slice a3 L.su.length c3) := by subst hA; exact (by (try go_simp); (repeat (simp only [↓IntWalk.iteOmega]; (try go_simp))); (try omega))
    clear hA
    have HX := Lib.hid (And.intro x0 (And.intro x1 (And.intro x2 x3)))
    clear x0 x1 x3
    go_loopw [3] (fun n wr => ∃ m : Nat, m ≤ L.ca.length ∧ n = .int .i64 m ∧ (∀ (k : Nat) (x : List Clo), k < m → L.ca[k]? = some x → x.length ≤ 4) ∧ Below wA.heap.size wA wr) (fun n _ => L.ca.length - (intOf n).toNat)
    case atStart => exact ⟨0, Nat.zero_le _, rfl, fun k x hk => by omega, Below.refl _ _⟩
    case round =>
      clear x2
      obtain ⟨m, hm, rfl, hall, hb⟩ := hrel
      have x2 := kept_of_below hb _ _ HX.out.2.2.1
      by_cases hlt : m < L.ca.length
      · have hx := List.getElem?_eq_getElem hlt
        obtain ⟨b, o, A', c', hA, hcell, hl1, hl7, hrow⟩ := (HR.out.ca.kept (kept_of_below (below_tr HBA.out hb))) m _ hx
        have HXx := Lib.hid hx
        generalize L.ca[m] = xs at *
        simp only at hA
        subst hA
        replace hrow := Lib.hid hrow
        replace hall := Lib.hid hall
        replace hb := Lib.hid hb
        clear hx
        by_cases h4 : 4 < xs.length
        · have h3 := Lib.hid (HRR.out.symm.trans (fault3_case HXx.out h4))
          go_wp2
          go_ret
          exact ⟨by rw [h3.out]; rfl, below_tr HBA.out hb.out⟩
        · go_wp2
          go_roundw
          case rel => exact ⟨m + 1, by omega, by go_num, fun k x hk hx => by by_cases e : k = m; subst e; rw [HXx.out] at hx; cases hx; omega; exact hall.out k x (by omega) hx, hb.out⟩
          case measure => simp [intOf]; omega
      · obtain rfl : m = L.ca.length := by omega
        have HLim := Lib.hid (lim_no HLen.out (fun k x hk => hall k x (List.getElem?_eq_some_iff.1 hk).1 hk))
        have HB1 := Lib.hid (below_tr HBA.out hb)
        have x0 := kept_of_below hb _ _ HX.out.1
        have x3 := kept_of_below hb _ _ HX.out.2.2.2
        have HX2 := Lib.hid (And.intro x0 (And.intro (kept_of_below hb _ _ HX.out.2.1) (And.intro x2 x3)))
        clear hall hb HLen HX HBA
        by_cases hz : L.st.length = 0 ∨ L.ca.length = 0 ∨ L.su.length = 0
        · have hbad : badL L = true := by
            unfold badL
            rcases hz with h | h | h <;> simp [h]
          have h1 := Lib.hid (HRR.out.symm.trans (fault1 HLim.out hbad))
          clear hbad
          by_cases z1 : L.st.length = 0
          · go_wp2
            go_ret
            exact ⟨by rw [h1.out]; rfl, HB1.out⟩
          · by_cases z2 : L.ca.length = 0
            · go_wp2
              go_ret
              exact ⟨by rw [h1.out]; rfl, HB1.out⟩
            · have z3 : L.su.length = 0 := by omega
              go_wp2
              go_ret
              exact ⟨by rw [h1.out]; rfl, HB1.out⟩
        · have z1 : ¬ L.st.length = 0 := by omega
          have z2 : ¬ L.ca.length = 0 := by omega
          have z3 : ¬ L.su.length = 0 := by omega
          have d1 : ((L.st.length : Int) == 0) = false := by rw [beq_eq_false_iff_ne]; omega
          have d2 : ((L.ca.length : Int) == 0) = false := by rw [beq_eq_false_iff_ne]; omega
          have d3 : ((L.su.length : Int) == 0) = false := by rw [beq_eq_false_iff_ne]; omega
          replace hz := Lib.hid hz
          clear z1 z2 z3
          obtain ⟨w1, rfl⟩ : ∃ w1, w1 = wr := ⟨wr, rfl⟩
          go_wp2
          clear x0 x2 x3 d1 d2 d3
          go_loopw [4] (fun n wr => ∃ m : Nat, m ≤ L.st.length ∧ n = .int .i64 m ∧ (∀ (k : Nat) (x : Sta), k < m → L.st[k]? = some x → staOk x = true) ∧ (∀ (i k : Nat) (x y : Sta), i < m → k < i → L.st[i]? = some x → L.st[k]? = some y → sameAt y x = false) ∧ Below w1.heap.size w1 wr) (fun n _ => L.st.length - (intOf n).toNat)
          case atStart => exact ⟨0, Nat.zero_le _, rfl, fun k x hk => by omega, fun i k x y hi => by omega, Below.refl _ _⟩
          case round =>
            obtain ⟨m, hm, rfl, hall, hap, hb⟩ := hrel
            have x0 := kept_of_below hb _ _ HX2.out.1
            have hl0 := cell_lt x0
            simp only at hl0
            by_cases hlt : m < L.st.length
            · have hx := List.getElem?_eq_getElem hlt
              obtain ⟨b, o, hA, e0, e1, e2, e3⟩ := ((HR.out.below HB1.out).st.kept (kept_of_below hb)).sta hx
              have HXx := Lib.hid hx
              have hlb := cell_lt e0
              generalize L.st[m] = x at *
              simp only at hA hlb
              subst hA
              have hsz := hb.size
              replace hall := Lib.hid hall
              replace hap := Lib.hid hap
              replace hb := Lib.hid hb
              clear hx
              obtain ⟨sx, sy, sz, sm⟩ := x
              simp only at e0 e1 e2 e3
              have hD : staOk ⟨sx, sy, sz, sm⟩ = (inR sx 0 100 && inR sy 0 100 && inR sz 0 1000 && inR sm 1 2) := rfl
              cases hok : staOk ⟨sx, sy, sz, sm⟩ with
              | false =>
                have h1 := Lib.hid (HRR.out.symm.trans (fault1 HLim.out (bad_sta HXx.out hok)))
                rw [hok] at hD
                have hfb := Lib.hid (below_tr HB1.out (below_al hb.out (.cells #[.int .i64 sx, .int .i64 sy, .int .i64 sz, .int .i64 sm] 77)))
                rcases Bool.eq_false_or_eq_true (inR sx 0 100) with q1 | q1 <;> rcases Bool.eq_false_or_eq_true (inR sy 0 100) with q2 | q2 <;> rcases Bool.eq_false_or_eq_true (inR sz 0 1000) with q3 | q3 <;> rcases Bool.eq_false_or_eq_true (inR sm 1 2) with q4 | q4
                all_goals first | (exfalso; rw [q1, q2, q3, q4] at hD; simp at hD; done) | (clear hD; go_wp2_with (go_at_call 35; refine (HI.out _ _ _ _).mono ?_; rintro e w' ⟨rfl, rfl⟩); go_ret; exact ⟨by rw [h1.out]; rfl, hfb.out⟩)
              | true =>
                rw [hok] at hD
                have q1 : inR sx 0 100 = true := by
                  cases h : inR sx 0 100
                  · rw [h] at hD; simp at hD
                  · rfl
                have q2 : inR sy 0 100 = true := by
                  cases h : inR sy 0 100
                  · rw [h] at hD; simp at hD
                  · rfl
                have q3 : inR sz 0 1000 = true := by
                  cases h : inR sz 0 1000
                  · rw [h] at hD; simp at hD
                  · rfl
                have q4 : inR sm 1 2 = true := by
                  cases h : inR sm 1 2
                  · rw [h] at hD; simp at hD
                  · rfl
                clear hD
                have hokH := Lib.hid hok
                clear hok
                go_wp2_with (go_at_call 35; refine (HI.out _ _ _ _).mono ?_; rintro e w' ⟨rfl, rfl⟩)
                have hB2 : Below w1.heap.size w1 (wr.alloc (.cells #[.int .i64 sx, .int .i64 sy, .int .i64 sz, .int .i64 sm] 77)) := hb.out.alloc hsz _
                have t0 : (wr.alloc (.cells #[.int .i64 sx, .int .i64 sy, .int .i64 sz, .int .i64 sm] 77)).cell? ⟨wr.heap.size, 0, none⟩ = some (.int .i64 sx) := (by (try go_simp); (repeat (simp only [↓IntWalk.iteOmega]; (try go_simp))); (try omega))
                have t1 : (wr.alloc (.cells #[.int .i64 sx, .int .i64 sy, .int .i64 sz, .int .i64 sm] 77)).cell? ⟨wr.heap.size, 1, none⟩ = some (.int .i64 sy) := (by (try go_simp); (repeat (simp only [↓IntWalk.iteOmega]; (try go_simp))); (try omega))
                replace t0 := Lib.hid t0
                replace t1 := Lib.hid t1
                generalize hW2 : wr.alloc (.cells #[.int .i64 sx, .int .i64 sy, .int .i64 sz, .int .i64 sm] 77) = w2 at *
                generalize wr.heap.size = bs at *
                replace hB2 := Lib.hid hB2
                clear hW2 q1 q2 q3 q4 x0 e0 e1 e2 e3
                clear hl0 hlb hb hsz
                clear wr
                go_loopw [6] (fun n wr => ∃ k : Nat, k ≤ m ∧ n = .int .i64 k ∧ (∀ (k' : Nat) (y : Sta), k' < k → L.st[k']? = some y → sameAt y ⟨sx, sy, sz, sm⟩ = false) ∧ Below w2.heap.size w2 wr) (fun n _ => m - (intOf n).toNat)
                case atStart => exact ⟨0, Nat.zero_le _, rfl, fun k x hk => by omega, Below.refl _ _⟩
                case round =>
                  obtain ⟨k, hkm, rfl, hdif, hbk⟩ := hrel
                  have hB3 := hB2.out.trans (hbk.mono hB2.out.size)
                  have x0 := kept_of_below hB3 _ _ HX2.out.1
                  have tt0 := kept_of_below hbk _ _ t0.out
                  have tt1 := kept_of_below hbk _ _ t1.out
                  have hl0 := cell_lt x0
                  have hlt0 := cell_lt tt0
                  simp only at hl0 hlt0
                  replace hB3 := Lib.hid hB3
                  replace hdif := Lib.hid hdif
                  by_cases hltk : k < m
                  · have hy := List.getElem?_eq_getElem (show k < L.st.length by omega)
                    obtain ⟨b', o', hA', f0, f1, f2, f3⟩ := ((HR.out.below HB1.out).st.kept (kept_of_below hB3.out)).sta hy
                    cases hA'
                    have HY := Lib.hid hy
                    have hlb := cell_lt f0
                    generalize L.st[k] = y at *
                    simp only at hlb
                    obtain ⟨yx, yy, yz, ym⟩ := y
                    simp only at f0 f1 f2 f3
                    have hbk' := Lib.hid hbk
                    clear hy hbk
                    by_cases h1 : yx = sx
                    · have c1 : ((yx : Int) == sx) = true := by simpa using h1
                      by_cases h2 : yy = sy
                      · have c2 : ((yy : Int) == sy) = true := by simpa using h2
                        have hbad := Lib.hid (HRR.out.symm.trans (fault1 HLim.out (bad_apart HXx.out HY.out hltk (by simp [sameAt, h1, h2]))))
                        replace h1 := Lib.hid h1
                        replace h2 := Lib.hid h2
                        go_wp2
                        (refine wp_region_ov (by kernel_rfl) (by kernel_rfl) (fun R hR => ?_); (repeat (go_big_quiet_step (fail))); refine wpQuiet_nil ?_; refine hR.out _ ?_; clear hR R; intro W hW; have hc := hW.cells; have hf := hW.frozens; have hz := hW.size; (try simp at hz))
                        have hfb := Lib.hid (below_tr (below_tr HB1.out hB3.out) hW.out)
                        clear hc hf hz hW
                        go_wp2
                        go_ret
                        exact ⟨by rw [hbad.out]; rfl, hfb.out⟩
                      · have c2 : ((yy : Int) == sy) = false := by simpa using h2
                        have hno := Lib.hid (show sameAt ⟨yx, yy, yz, ym⟩ ⟨sx, sy, sz, sm⟩ = false by simp [sameAt, h2])
                        replace h1 := Lib.hid h1
                        replace h2 := Lib.hid h2
                        go_wp2
                        (refine wp_region_ov (by kernel_rfl) (by kernel_rfl) (fun R hR => ?_); (repeat (go_big_quiet_step (fail))); refine wpQuiet_nil ?_; refine hR.out _ ?_; clear hR R; intro W hW; have hc := hW.cells; have hf := hW.frozens; have hz := hW.size; (try simp at hz))
                        have hb9 := Lib.hid (hbk'.out.trans (hW.out.mono hbk'.out.size))
                        clear hc hf hz hW
                        go_wp2
                        go_roundw
                        case rel => exact ⟨k + 1, by omega, by go_num, fun k' y hk hy => by by_cases e : k' = k; subst e; rw [HY.out] at hy; cases hy; exact hno.out; exact hdif.out k' y (by omega) hy, hb9.out⟩
                        case measure => simp [intOf]; omega
                    · have c1 : ((yx : Int) == sx) = false := by simpa using h1
                      have hno := Lib.hid (show sameAt ⟨yx, yy, yz, ym⟩ ⟨sx, sy, sz, sm⟩ = false by simp [sameAt, h1])
                      replace h1 := Lib.hid h1
                      go_wp2
                      (refine wp_region_ov (by kernel_rfl) (by kernel_rfl) (fun R hR => ?_); (repeat (go_big_quiet_step (fail))); refine wpQuiet_nil ?_; refine hR.out _ ?_; clear hR R; intro W hW; have hc := hW.cells; have hf := hW.frozens; have hz := hW.size; (try simp at hz))
                      have hb9 := Lib.hid (hbk'.out.trans (hW.out.mono hbk'.out.size))
                      clear hc hf hz hW
                      go_wp2
                      go_roundw
                      case rel => exact ⟨k + 1, by omega, by go_num, fun k' y hk hy => by by_cases e : k' = k; subst e; rw [HY.out] at hy; cases hy; exact hno.out; exact hdif.out k' y (by omega) hy, hb9.out⟩
                      case measure => simp [intOf]; omega
                  · obtain rfl : k = m := by omega
                    clear hbk x0 tt0 tt1
                    go_wp2
                    go_roundw
                    case rel => exact ⟨k + 1, by omega, by go_num, fun k' x hk hx => by by_cases e : k' = k; subst e; rw [HXx.out] at hx; cases hx; exact hokH.out; exact hall.out k' x (by omega) hx,
                      fun i k' x y hi hk hx hy => by by_cases e : i = k; subst e; rw [HXx.out] at hx; cases hx; exact hdif.out k' y hk hy; exact hap.out i k' x y (by omega) hk hx hy, hB3.out⟩
                    case measure => simp [intOf]; omega
            · obtain rfl : m = L.st.length := by omega
              have HSt : Hid (∀ (k : Nat) (x : Sta), L.st[k]? = some x → staOk x = true) := Lib.hid (fun k x hx => hall k x (List.getElem?_eq_some_iff.1 hx).1 hx)
              have HAp : Hid (∀ (i k : Nat) (x y : Sta), L.st[i]? = some x → L.st[k]? = some y → k < i → sameAt y x = false) := Lib.hid (fun i k x y hx hy hlt => hap i k x y (List.getElem?_eq_some_iff.1 hx).1 hlt hx hy)
              have HB2 := Lib.hid (below_tr HB1.out hb)
              have x1 := kept_of_below hb _ _ HX2.out.2.1
              have HX3 := Lib.hid (And.intro x1 (And.intro (kept_of_below hb _ _ HX2.out.2.2.1) (kept_of_below hb _ _ HX2.out.2.2.2)))
              clear hall hap hb HX2 HB1 hl0
              obtain ⟨w2, rfl⟩ : ∃ w2, w2 = wr := ⟨wr, rfl⟩
              go_wp2
              clear x0 x1
              go_loopw [7] (fun n wr => ∃ m : Nat, m ≤ L.ri.length ∧ n = .int .i64 m ∧ (∀ (k : Nat) (x : Wal), k < m → L.ri[k]? = some x → ridOk x = true) ∧ Below w2.heap.size w2 wr) (fun n _ => L.ri.length - (intOf n).toNat)
              case atStart => exact ⟨0, Nat.zero_le _, rfl, fun k x hk => by omega, Below.refl _ _⟩
              case round =>
                obtain ⟨m, hm, rfl, hall, hbr⟩ := hrel
                have x1 := kept_of_below hbr _ _ HX3.out.1
                have hl0 := cell_lt x1
                simp only at hl0
                by_cases hlt : m < L.ri.length
                · have hx := List.getElem?_eq_getElem hlt
                  obtain ⟨b, o, hA, e0, e1, e2, e3, e4, e5⟩ := ((HR.out.below HB2.out).ri.kept (kept_of_below hbr)).wal hx
                  have HXx := Lib.hid hx
                  have hlb := cell_lt e0
                  generalize L.ri[m] = x at *
                  simp only at hA hlb
                  subst hA
                  replace hall := Lib.hid hall
                  replace hbr := Lib.hid hbr
                  clear hx
                  obtain ⟨p1, p2, p3, p4, pb, pt⟩ := x
                  simp only at e0 e1 e2 e3 e4 e5
                  have HW := Lib.hid (fun W => isWall_any p1 p2 p3 p4 pb pt W)
                  have hD : Hid (ridOk ⟨p1, p2, p3, p4, pb, pt⟩ = (walOk ⟨p1, p2, p3, p4, pb, pt⟩ && decide (pb = 0))) := Lib.hid rfl
                  cases hw : walOk ⟨p1, p2, p3, p4, pb, pt⟩ with
                  | false =>
                    have h1 := Lib.hid (HRR.out.symm.trans (fault1 HLim.out (bad_rid HXx.out (by rw [hD.out, hw]; rfl))))
                    rw [hw] at HW
                    clear hw
                    go_wp2_with (go_at_call 36; refine (HW.out _).mono ?_; rintro e w' ⟨rfl, hb⟩; obtain ⟨hc, hf⟩ := bcell hb; have hz := hb.size; try simp at hz)
                    go_ret
                    exact ⟨by rw [h1.out]; rfl, below_tr (below_tr HB2.out hbr.out) hb⟩
                  | true =>
                    by_cases hb0 : pb = 0
                    · have hyes := Lib.hid (show ridOk ⟨p1, p2, p3, p4, pb, pt⟩ = true by rw [hD.out, hw, hb0]; rfl)
                      have c1 : (pb != 0) = false := by rw [hb0]; rfl
                      rw [hw] at HW
                      replace hb0 := Lib.hid hb0
                      clear hw
                      go_wp2_with (go_at_call 36; refine (HW.out _).mono ?_; rintro e w' ⟨rfl, hb⟩; obtain ⟨hc, hf⟩ := bcell hb; have hz := hb.size; try simp at hz)
                      go_roundw
                      case rel => exact ⟨m + 1, by omega, by go_num, fun k' x hk hx => by by_cases e : k' = m; subst e; rw [HXx.out] at hx; cases hx; exact hyes.out; exact hall.out k' x (by omega) hx, hbr.out.trans (hb.mono hbr.out.size)⟩
                      case measure => simp [intOf]; omega
                    · have h1 := Lib.hid (HRR.out.symm.trans (fault1 HLim.out (bad_rid HXx.out (by rw [hD.out, hw, decide_eq_false hb0]; rfl))))
                      have c1 : (pb != 0) = true := by simpa using hb0
                      rw [hw] at HW
                      replace hb0 := Lib.hid hb0
                      clear hw
                      go_wp2_with (go_at_call 36; refine (HW.out _).mono ?_; rintro e w' ⟨rfl, hb⟩; obtain ⟨hc, hf⟩ := bcell hb; have hz := hb.size; try simp at hz)
                      go_ret
                      exact ⟨by rw [h1.out]; rfl, below_tr (below_tr HB2.out hbr.out) hb⟩
                · obtain rfl : m = L.ri.length := by omega
                  have HRi : Hid (∀ (k : Nat) (x : Wal), L.ri[k]? = some x → ridOk x = true) := Lib.hid (fun k x hx => hall k x (List.getElem?_eq_some_iff.1 hx).1 hx)
                  have HB3 := Lib.hid (below_tr HB2.out hbr)
                  have x2 := kept_of_below hbr _ _ HX3.out.2.1
                  have HX4 := Lib.hid (And.intro x2 (kept_of_below hbr _ _ HX3.out.2.2))
                  clear hall hbr HX3 HB2 hl0
                  obtain ⟨w3, rfl⟩ : ∃ w3, w3 = wr := ⟨wr, rfl⟩
                  go_wp2
                  clear x1 x2
                  go_loopw [8] (fun n wr => ∃ m : Nat, m ≤ L.ca.length ∧ n = .int .i64 m ∧ (∀ (k j : Nat) (xs : List Clo) (x : Clo), k < m → L.ca[k]? = some xs → xs[j]? = some x → cloOk L.su.length x = true) ∧ Below w3.heap.size w3 wr) (fun n _ => L.ca.length - (intOf n).toNat)
                  case atStart => exact ⟨0, Nat.zero_le _, rfl, fun k j xs x hk => by omega, Below.refl _ _⟩
                  case round =>
                    obtain ⟨m, hm, rfl, hall, hbr⟩ := hrel
                    have x2 := kept_of_below hbr _ _ HX4.out.1
                    have hl0 := cell_lt x2
                    simp only at hl0
                    by_cases hlt : m < L.ca.length
                    · have hx := List.getElem?_eq_getElem hlt
                      obtain ⟨b, o, A', c', hA, hcell, hle, hl7, hrow⟩ := ((HR.out.below HB3.out).ca.kept (kept_of_below hbr)) m _ hx
                      have HXx := Lib.hid hx
                      generalize L.ca[m] = xs at *
                      simp only at hA
                      subst hA
                      have HC := Lib.hid hcell
                      have HRow := Lib.hid hrow
                      have HX5 := Lib.hid (And.intro x2 (kept_of_below hbr _ _ HX4.out.2))
                      replace hall := Lib.hid hall
                      replace hbr := Lib.hid hbr
                      clear hx hrow hcell
                      obtain ⟨w4, rfl⟩ : ∃ w4, w4 = wr := ⟨wr, rfl⟩
                      go_wp2
                      clear x2
                      go_loopw [9] (fun n wr => ∃ j : Nat, j ≤ xs.length ∧ n = .int .i64 j ∧ (∀ (i : Nat) (x : Clo), i < j → xs[i]? = some x → cloOk L.su.length x = true) ∧ Below w4.heap.size w4 wr) (fun n _ => xs.length - (intOf n).toNat)
                      case atStart => exact ⟨0, Nat.zero_le _, rfl, fun k x hk => by omega, Below.refl _ _⟩
                      case round =>
                        obtain ⟨j, hj, rfl, hin, hbj⟩ := hrel
                        have x2 := kept_of_below hbj _ _ HX5.out.1
                        have x3 := kept_of_below hbj _ _ HX5.out.2
                        have y2 := kept_of_below hbj _ _ HC.out
                        have hl0 := cell_lt x2
                        have hl2 := cell_lt y2
                        simp only at hl0 hl2
                        by_cases hltj : j < xs.length
                        · have hx := List.getElem?_eq_getElem hltj
                          obtain ⟨b5, o5, hA5, e0, e1, e2, e3, e4, e5, e6, e7⟩ := (HRow.out.kept (kept_of_below hbj)).clo hx
                          have HXj := Lib.hid hx
                          have hlb := cell_lt e0
                          generalize xs[j] = x at *
                          simp only at hA5 hlb
                          subst hA5
                          have hzj := hbj.size
                          replace hin := Lib.hid hin
                          replace hbj := Lib.hid hbj
                          clear hx
                          obtain ⟨⟨p1, p2, p3, p4, pb, pt⟩, pf, pu⟩ := x
                          simp only at e0 e1 e2 e3 e4 e5 e6 e7
                          have HW := Lib.hid (fun W => isWall_any p1 p2 p3 p4 pb pt W)
                          have hD : Hid (cloOk L.su.length ⟨⟨p1, p2, p3, p4, pb, pt⟩, pf, pu⟩ = (walOk ⟨p1, p2, p3, p4, pb, pt⟩ && inR pf 0 pu && decide (pu < (L.su.length : Int)))) := Lib.hid rfl
                          have hB5 : Hid (Below w4.heap.size w4 (wr.alloc (.cells #[.int .i64 p1, .int .i64 p2, .int .i64 p3, .int .i64 p4, .int .i64 pb, .int .i64 pt, .int .i64 pf, .int .i64 pu] 55))) := Lib.hid (hbj.out.alloc hzj _)
                          have hB6 : Hid (Below w.heap.size w (wr.alloc (.cells #[.int .i64 p1, .int .i64 p2, .int .i64 p3, .int .i64 p4, .int .i64 pb, .int .i64 pt, .int .i64 pf, .int .i64 pu] 55))) := Lib.hid (below_tr (below_tr HB3.out hbr.out) hB5.out)
                          cases hw : walOk ⟨p1, p2, p3, p4, pb, pt⟩ with
                          | false =>
                            have h1 := Lib.hid (HRR.out.symm.trans (fault1 HLim.out (bad_clo HXx.out HXj.out (by rw [hD.out, hw]; rfl))))
                            rw [hw] at HW
                            clear hw
                            go_wp2_with (go_at_call 36; refine (HW.out _).mono ?_; rintro e w' ⟨rfl, hb⟩; obtain ⟨hc, hf⟩ := bcell hb; have hz := hb.size; try simp at hz)
                            go_ret
                            exact ⟨by rw [h1.out]; rfl, below_tr hB6.out hb⟩
                          | true =>
                            cases hi : inR pf 0 pu with
                            | false =>
                              have h1 := Lib.hid (HRR.out.symm.trans (fault1 HLim.out (bad_clo HXx.out HXj.out (by rw [hD.out, hw, hi]; rfl))))
                              rw [hw] at HW
                              have HI2 := Lib.hid (fun W => in_any pf 0 pu W)
                              rw [hi] at HI2
                              clear hw hi
                              go_wp2_with (first | (go_at_call 36; refine (HW.out _).mono ?_; rintro e w' ⟨rfl, hb⟩; obtain ⟨hc, hf⟩ := bcell hb; have hz := hb.size; try simp at hz) | (go_at_call 35; refine (HI2.out _).mono ?_; rintro e w' ⟨rfl, rfl⟩))
                              go_ret
                              exact ⟨by rw [h1.out]; rfl, below_tr hB6.out hb⟩
                            | true =>
                              have HI2 := Lib.hid (fun W => in_any pf 0 pu W)
                              rw [hi] at HI2
                              rw [hw] at HW
                              cases ht : decide (pu < (L.su.length : Int)) with
                              | false =>
                                have h1 := Lib.hid (HRR.out.symm.trans (fault1 HLim.out (bad_clo HXx.out HXj.out (by rw [hD.out, ht, Bool.and_false]))))
                                have ht2 := of_decide_eq_false ht
                                clear hw hi ht
                                go_wp2_with (first | (go_at_call 36; refine (HW.out _).mono ?_; rintro e w' ⟨rfl, hb⟩; obtain ⟨hc, hf⟩ := bcell hb; have hz := hb.size; try simp at hz) | (go_at_call 35; refine (HI2.out _).mono ?_; rintro e w' ⟨rfl, rfl⟩))
                                go_ret
                                exact ⟨by rw [h1.out]; rfl, below_tr hB6.out hb⟩
                              | true =>
                                have hyes := Lib.hid (show cloOk L.su.length ⟨⟨p1, p2, p3, p4, pb, pt⟩, pf, pu⟩ = true by rw [hD.out, hw, hi, ht]; rfl)
                                have ht2 := of_decide_eq_true ht
                                clear hw hi ht
                                go_wp2_with (first | (go_at_call 36; refine (HW.out _).mono ?_; rintro e w' ⟨rfl, hb⟩; obtain ⟨hc, hf⟩ := bcell hb; have hz := hb.size; try simp at hz) | (go_at_call 35; refine (HI2.out _).mono ?_; rintro e w' ⟨rfl, rfl⟩))
                                go_roundw
                                case rel => exact ⟨j + 1, by omega, by go_num, fun k' x hk hx => by by_cases e : k' = j; subst e; rw [HXj.out] at hx; cases hx; exact hyes.out; exact hin.out k' x (by omega) hx, hB5.out.trans (hb.mono hB5.out.size)⟩
                                case measure => simp [intOf]; omega
                        · obtain rfl : j = xs.length := by omega
                          have hB5 := Lib.hid (hbr.out.trans (hbj.mono hbr.out.size))
                          replace hin := Lib.hid hin
                          clear hbj x3
                          go_wp2
                          go_roundw
                          case rel => exact ⟨m + 1, by omega, by go_num, fun k j xs' x hk h1 h2 => by by_cases e : k = m; subst e; rw [HXx.out] at h1; cases h1; exact hin.out j x (List.getElem?_eq_some_iff.1 h2).1 h2; exact hall.out k j xs' x (by omega) h1 h2, hB5.out⟩
                          case measure => simp [intOf]; omega
                    · obtain rfl : m = L.ca.length := by omega
                      have HCa : Hid (∀ (k j : Nat) (xs : List Clo) (x : Clo), L.ca[k]? = some xs → xs[j]? = some x → cloOk L.su.length x = true) := Lib.hid (fun k j xs x h1 h2 => hall k j xs x (List.getElem?_eq_some_iff.1 h1).1 h1 h2)
                      have HB4 := Lib.hid (below_tr HB3.out hbr)
                      have x3 := kept_of_below hbr _ _ HX4.out.2
                      have HX5 := Lib.hid x3
                      clear hall hbr HX4 HB3 hl0
                      obtain ⟨w4, rfl⟩ : ∃ w4, w4 = wr := ⟨wr, rfl⟩
                      go_wp2
                      clear x2 x3
                      go_loopw [11] (fun n wr => ∃ m : Nat, m ≤ L.su.length ∧ n = .int .i64 m ∧ (∀ (k : Nat) (x : Sun), k < m → L.su[k]? = some x → sunOk x = true) ∧ Below w4.heap.size w4 wr) (fun n _ => L.su.length - (intOf n).toNat)
                      case atStart => exact ⟨0, Nat.zero_le _, rfl, fun k x hk => by omega, Below.refl _ _⟩
                      case round =>
                        obtain ⟨m, hm, rfl, hall, hbr⟩ := hrel
                        have x3 := kept_of_below hbr _ _ HX5.out
                        have hl0 := cell_lt x3
                        simp only at hl0
                        by_cases hlt : m < L.su.length
                        · have hx := List.getElem?_eq_getElem hlt
                          obtain ⟨b, o, hA, e0, e1, e2⟩ := ((HR.out.below HB4.out).su.kept (kept_of_below hbr)).sun hx
                          have HXx := Lib.hid hx
                          have hlb := cell_lt e0
                          generalize L.su[m] = x at *
                          simp only at hA hlb
                          subst hA
                          have hzr := hbr.size
                          replace hall := Lib.hid hall
                          replace hbr := Lib.hid hbr
                          clear hx
                          obtain ⟨se, sn, su⟩ := x
                          simp only at e0 e1 e2
                          have hD : Hid (sunOk ⟨se, sn, su⟩ = (inR se (-100) 100 && inR sn (-100) 100 && inR su (-100) 100)) := Lib.hid rfl
                          have hB5 : Hid (Below w4.heap.size w4 (wr.alloc (.cells #[.int .i64 se, .int .i64 sn, .int .i64 su] 83))) := Lib.hid (hbr.out.alloc hzr _)
                          have hB6 := Lib.hid (below_tr HB4.out hB5.out)
                          cases q1 : inR se (-100) 100 with
                          | false =>
                            have h1 := Lib.hid (HRR.out.symm.trans (fault1 HLim.out (bad_sun HXx.out (by rw [hD.out, q1]; rfl))))
                            go_wp2_with (go_at_call 35; refine (HI.out _ _ _ _).mono ?_; rintro e w' ⟨rfl, rfl⟩)
                            go_ret
                            exact ⟨by rw [h1.out]; rfl, hB6.out⟩
                          | true =>
                            cases q2 : inR sn (-100) 100 with
                            | false =>
                              have h1 := Lib.hid (HRR.out.symm.trans (fault1 HLim.out (bad_sun HXx.out (by rw [hD.out, q1, q2]; rfl))))
                              go_wp2_with (go_at_call 35; refine (HI.out _ _ _ _).mono ?_; rintro e w' ⟨rfl, rfl⟩)
                              go_ret
                              exact ⟨by rw [h1.out]; rfl, hB6.out⟩
                            | true =>
                              cases q3 : inR su (-100) 100 with
                              | false =>
                                have h1 := Lib.hid (HRR.out.symm.trans (fault1 HLim.out (bad_sun HXx.out (by rw [hD.out, q1, q2, q3]; rfl))))
                                go_wp2_with (go_at_call 35; refine (HI.out _ _ _ _).mono ?_; rintro e w' ⟨rfl, rfl⟩)
                                go_ret
                                exact ⟨by rw [h1.out]; rfl, hB6.out⟩
                              | true =>
                                have hyes := Lib.hid (show sunOk ⟨se, sn, su⟩ = true by rw [hD.out, q1, q2, q3]; rfl)
                                go_wp2_with (go_at_call 35; refine (HI.out _ _ _ _).mono ?_; rintro e w' ⟨rfl, rfl⟩)
                                go_roundw
                                case rel => exact ⟨m + 1, by omega, by go_num, fun k' x hk hx => by by_cases e : k' = m; subst e; rw [HXx.out] at hx; cases hx; exact hyes.out; exact hall.out k' x (by omega) hx, hB5.out⟩
                                case measure => simp [intOf]; omega
                        · obtain rfl : m = L.su.length := by omega
                          have h0 := Lib.hid (HRR.out.symm.trans (fault0 HLim.out hz.out HSt.out HAp.out HRi.out HCa.out (fun k x hx => hall k x (List.getElem?_eq_some_iff.1 hx).1 hx)))
                          have hB6 := Lib.hid (below_tr HB4.out hbr)
                          clear hall hbr
                          go_wp2
                          go_ret
                          exact ⟨by rw [h0.out]; rfl, hB6.out⟩
  · have h3 := Lib.hid (fault3_len hlen)
    have hl : ¬ (L.st.length ≤ 6 ∧ L.ri.length ≤ 6 ∧ L.ca.length ≤ 4 ∧ L.su.length ≤ 12) := hlen
    rw [h3.out]
    obtain ⟨a0, c0, a1, c1, a2, c2, a3, c3⟩ := V
    clear hr hlen h3
    simp only [vLnd]
    by_cases g1 : L.st.length ≤ 6
    · by_cases g2 : L.ri.length ≤ 6
      · by_cases g3 : L.ca.length ≤ 4
        · have g4 : ¬ L.su.length ≤ 12 := fun g4 => hl ⟨g1, g2, g3, g4⟩
          clear hl
          go_enter Try.func18, Try.ntmps18
          go_wp2
          go_ret
          exact ⟨rfl, by (repeat (first | exact Below.refl _ _ | (with_reducible exact Hid.out (by assumption)) | refine below_al ?_ _ | refine below_dr ?_ | refine below_tr ?_ (by assumption) | refine below_tr ?_ (Bel.out (by assumption)) | refine below_tr ?_ (Bel.out (ov_bel _ _)) | refine below_set ?_ (by simp; try omega)))⟩
        · clear hl
          go_enter Try.func18, Try.ntmps18
          go_wp2
          go_ret
          exact ⟨rfl, by (repeat (first | exact Below.refl _ _ | (with_reducible exact Hid.out (by assumption)) | refine below_al ?_ _ | refine below_dr ?_ | refine below_tr ?_ (by assumption) | refine below_tr ?_ (Bel.out (by assumption)) | refine below_tr ?_ (Bel.out (ov_bel _ _)) | refine below_set ?_ (by simp; try omega)))⟩
      · clear hl
        go_enter Try.func18, Try.ntmps18
        go_wp2
        go_ret
        exact ⟨rfl, by (repeat (first | exact Below.refl _ _ | (with_reducible exact Hid.out (by assumption)) | refine below_al ?_ _ | refine below_dr ?_ | refine below_tr ?_ (by assumption) | refine below_tr ?_ (Bel.out (by assumption)) | refine below_tr ?_ (Bel.out (ov_bel _ _)) | refine below_set ?_ (by simp; try omega)))⟩
    · clear hl
      go_enter Try.func18, Try.ntmps18
      go_wp2
      go_ret
      exact ⟨rfl, by (repeat (first | exact Below.refl _ _ | (with_reducible exact Hid.out (by assumption)) | refine below_al ?_ _ | refine below_dr ?_ | refine below_tr ?_ (by assumption) | refine below_tr ?_ (Bel.out (by assumption)) | refine below_tr ?_ (Bel.out (ov_bel _ _)) | refine below_set ?_ (by simp; try omega)))⟩
end Go.Proofs.Ytdfohielnfdmkaa

