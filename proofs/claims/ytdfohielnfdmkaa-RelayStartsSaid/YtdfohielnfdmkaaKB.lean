/- Part KB of the proof: D2 · W4 · W5. -/
import Derived.Test.YtdfohielnfdmkaaKA
set_option linter.unusedVariables false
set_option linter.unusedSimpArgs false
/- More words: a region that draws its order, whose calls make memory of their own alone. -/
namespace Go.Proofs.Ytdfohielnfdmkaa
open Go.RowKit
/-- w' is w with new blocks (a word that the walk does not open). -/
def Bel (w w' : World) : Prop := Below w.heap.size w w'
theorem Bel.out {w w' : World} (h : Bel w w') : Below w.heap.size w w' := h
theorem Bel.cells {w w' : World} (h : Bel w w') : ∀ b o, w'.cell? ⟨b, o, none⟩ = if b < w.heap.size then w.cell? ⟨b, o, none⟩ else newCell w' b o := (bcell h).1
theorem Bel.frozens {w w' : World} (h : Bel w w') : ∀ b o, w'.frozen? ⟨b, o, none⟩ = if b < w.heap.size then w.frozen? ⟨b, o, none⟩ else newFrozen w' b o := (bcell h).2
theorem Bel.size {w w' : World} (h : Bel w w') : w.heap.size ≤ w'.heap.size := Below.size h
theorem wp_region_bel {P : Program} {id : Nat} {Q : Exit → Act → World → Prop} {a : Act} {w : World} {l : List Oper} (hm : P.follows .mixedOrders = true) (hB : Region.lexB .any l.toArray = true)
    (h : wpQuiet P l.toArray (Bel w) (fun a' => ∀ w', Bel w w' → Q .normal a' w') l a) : (Code.region id l.toArray true).wp P Q a w :=
  wp_region_quiet (C := Bel w) hm hB ((Below.refl _ w).drew) (by simpa using h)
theorem calls_bel {P : Program} {f : FuncId} {args : Array Value} {w W : World} {v : Value} (hW : Bel w W)
    (h : Calls P f args W fun e w' => e = .returned v ∧ Below W.heap.size W w') : Calls P f args W fun e w' => e = .returned v ∧ Bel w w' :=
  h.mono fun _ _ ⟨he, hb⟩ => ⟨he, below_tr hW hb⟩
theorem calls_bel_same {P : Program} {f : FuncId} {args : Array Value} {w W : World} {v : Value} (hW : Bel w W)
    (h : Calls P f args W fun e w' => e = .returned v ∧ W = w') : Calls P f args W fun e w' => e = .returned v ∧ Bel w w' :=
  h.mono fun _ _ ⟨he, hb⟩ => ⟨he, hb ▸ hW⟩
end Go.Proofs.Ytdfohielnfdmkaa

/- Walks: CheckLand (package hill). -/
set_option linter.unusedVariables false
set_option linter.unusedSimpArgs false
namespace Go.Proofs.Ytdfohielnfdmkaa
open Go.RowKit
attribute [local go_sem low] cell_alloc_ite frozen_alloc_ite

/-- What the search for two stations at one place has seen: all pairs with a first station before i. -/
def ApartTo (l : List Sta) (i : Nat) : Prop := ∀ a k, a < i → k < a → sameAt (l.getD k sta0) (l.getD a sta0) = false
theorem apart_of {l : List Sta} (h : ApartTo l l.length) : apart l = true := by
  unfold apart
  rw [List.all_eq_true]
  intro i hi
  rw [List.all_eq_true]
  intro k hk
  rw [h i k (by simpa using hi) (by simpa using hk)]; rfl
theorem not_apart {l : List Sta} {i k : Nat} (hi : i < l.length) (hk : k < i) (h : sameAt (l.getD k sta0) (l.getD i sta0) = true) : apart l = false := by
  unfold apart
  rw [List.all_eq_false]
  refine ⟨i, by simpa using hi, fun hall => ?_⟩
  have := List.all_eq_true.1 hall k (by simpa using hk)
  rw [h] at this; cases this
theorem getD_of {l : List Sta} {k : Nat} {x : Sta} (h : l[k]? = some x) : l.getD k sta0 = x := by simp [List.getD, h]

/-- The inner search: station k (its cells in block B, the land's in block B0) against those before m. -/
def ApRel (w : World) (V : LV) (L : Lnd) (k B0 B b o : Nat) (x : Sta) (i : Value) (wi : World) : Prop :=
  ∃ m : Nat, m ≤ k ∧ i = .int .i64 m ∧ (∀ j, j < m → sameAt (L.st.getD j sta0) (L.st.getD k sta0) = false) ∧ Below w.heap.size w wi ∧ B + 1 ≤ wi.heap.size
          ∧ wi.cell? ⟨B0, 0, none⟩ = some (.slice (some ⟨b, o, none⟩) L.st.length V.c0)
          ∧ wi.cell? ⟨B, 0, none⟩ = some (.int .i64 x.x) ∧ wi.cell? ⟨B, 1, none⟩ = some (.int .i64 x.y) ∧ wi.cell? ⟨B, 2, none⟩ = some (.int .i64 x.z) ∧ wi.cell? ⟨B, 3, none⟩ = some (.int .i64 x.m)

set_option maxHeartbeats 400000 in
theorem apart_any (V : LV) (L : Lnd) (w : World) (h : RdL w V L) :
    Calls Try.prog 62 #[vLnd V L] w fun r w' => r = .returned (.bool (apart L.st)) ∧ Below w.heap.size w w' := by
  obtain ⟨a0, c0, a1, c1, a2, c2, a3, c3⟩ := V
  have H := Lib.hid h
  have hl := h.l0
  have hk0 := h.k0
  clear h
  simp only [vLnd] at *
  go_enter Try.func62, Try.ntmps62
  go_wp2
  go_loopw [10] (fun i wr => ∃ k : Nat, k ≤ L.st.length ∧ i = .int .i64 k ∧ Hid (ApartTo L.st k) ∧ Hid (Below w.heap.size w wr) ∧ w.heap.size + 1 ≤ wr.heap.size ∧ wr.cell? ⟨w.heap.size, 0, none⟩ = some (.slice a0 L.st.length c0))
    (fun i _ => L.st.length - (intOf i).toNat)
  case atStart => exact ⟨0, Nat.zero_le _, rfl, Lib.hid (by intro a k ha; omega), Lib.hid (by (repeat (first | exact Below.refl _ _ | (with_reducible exact Hid.out (by assumption)) | refine below_al ?_ _ | refine below_dr ?_ | refine below_tr ?_ (by assumption) | refine below_tr ?_ (Bel.out (by assumption)) | refine below_tr ?_ (Bel.out (ov_bel _ _)) | refine below_set ?_ (by simp; try omega)))), by simp, by go_simp⟩
  case round =>
    obtain ⟨k, hk, rfl, HN, HB, hsz, hbx⟩ := hrel
    by_cases hlt : k < L.st.length
    · have hx := List.getElem?_eq_getElem hlt
      obtain ⟨b, o, hA, e0, e1, e2, e3⟩ := (H.out.st.kept (kept_of_below HB.out)).sta hx
      generalize L.st[k] = x at *
      have HX := Lib.hid hx
      clear hx
      simp only at hA
      subst hA
      go_wp2
      obtain ⟨wo, rfl⟩ : ∃ wo : World, wo = wr := ⟨_, rfl⟩
      go_loopw [20] (fun i wi => ApRel w ⟨some ⟨b, o, none⟩, c0, a1, c1, a2, c2, a3, c3⟩ L k w.heap.size wo.heap.size b o x i wi)
        (fun i _ => k - (intOf i).toNat)
      case atStart => exact ⟨0, Nat.zero_le _, rfl, (by intro j hj; omega), (below_al HB.out _), by simp, (by (try go_simp); (repeat (simp only [↓IntWalk.iteOmega]; (try go_simp))); (try omega)), by go_simp, by go_simp, by go_simp, by go_simp⟩
      case round =>
        clear e0 e1 e2 e3 hbx
        obtain ⟨m, hm, rfl, HM, HB2, hsz2, hbx, f0, f1, f2, f3⟩ := hrel
        replace HM := Lib.hid HM
        replace HB2 := Lib.hid HB2
        by_cases hmk : m < k
        · have hy := List.getElem?_eq_getElem (show m < L.st.length by omega)
          obtain ⟨b2, o2, hA2, g0, g1, g2, g3⟩ := (H.out.st.kept (kept_of_below HB2.out)).sta hy
          generalize L.st[m] = y at *
          cases hA2
          have HY := Lib.hid hy
          clear hy
          cases hsame : sameAt y x with
          | true =>
            have hq := fun w => eql_place w y.x y.y x.x x.y
            have hs2 : (decide (y.x = x.x) && decide (y.y = x.y)) = true := hsame
            simp only [hs2] at hq
            go_wp2
            (refine wp_region_bel (by kernel_rfl) (by kernel_rfl) ?_; (repeat (first | (refine BigFrame.wpQuiet_want (by rfl) (fun K hK => ?_); unfold Oper.quiet; apply Exists.intro; refine ⟨fun W hW => ?_, hK _ ?_⟩; (focus (have hc := hW.cells; have hf := hW.frozens; have hz := hW.size; (try simp at hz); (go_simp; (repeat (simp only [↓IntWalk.iteOmega]; go_simp)); (try go_bits); first | ((go_at_call 81; exact calls_bel hW (place_any _ _ _ _ _))) | rfl))); clear hK K; go_simp) | (refine BigFrame.wpQuiet_skip (by rfl) ?_; go_simp))); refine wpQuiet_nil ?_; intro W hW; have hc := hW.cells; have hf := hW.frozens; have hz := hW.size; (try simp at hz))
            go_wp2
            go_ret
            refine ⟨?_, by (repeat (first | exact Below.refl _ _ | (with_reducible exact Hid.out (by assumption)) | refine below_al ?_ _ | refine below_dr ?_ | refine below_tr ?_ (by assumption) | refine below_tr ?_ (Bel.out (by assumption)) | refine below_tr ?_ (Bel.out (ov_bel _ _)) | refine below_set ?_ (by simp; try omega)))⟩
            rw [not_apart hlt hmk (by rw [getD_of HY.out, getD_of HX.out]; exact hsame)]; rfl
          | false =>
            have hq := fun w => eql_place w y.x y.y x.x x.y
            have hs2 : (decide (y.x = x.x) && decide (y.y = x.y)) = false := hsame
            simp only [hs2] at hq
            go_wp2
            (refine wp_region_bel (by kernel_rfl) (by kernel_rfl) ?_; (repeat (first | (refine BigFrame.wpQuiet_want (by rfl) (fun K hK => ?_); unfold Oper.quiet; apply Exists.intro; refine ⟨fun W hW => ?_, hK _ ?_⟩; (focus (have hc := hW.cells; have hf := hW.frozens; have hz := hW.size; (try simp at hz); (go_simp; (repeat (simp only [↓IntWalk.iteOmega]; go_simp)); (try go_bits); first | ((go_at_call 81; exact calls_bel hW (place_any _ _ _ _ _))) | rfl))); clear hK K; go_simp) | (refine BigFrame.wpQuiet_skip (by rfl) ?_; go_simp))); refine wpQuiet_nil ?_; intro W hW; have hc := hW.cells; have hf := hW.frozens; have hz := hW.size; (try simp at hz))
            go_wp2
            go_roundw
            case rel =>
              refine ⟨m + 1, by omega, by go_num, (fun j hj => ?_), (by (repeat (first | exact Below.refl _ _ | (with_reducible exact Hid.out (by assumption)) | refine below_al ?_ _ | refine below_dr ?_ | refine below_tr ?_ (by assumption) | refine below_tr ?_ (Bel.out (by assumption)) | refine below_tr ?_ (Bel.out (ov_bel _ _)) | refine below_set ?_ (by simp; try omega)))), by omega, (by (try go_simp); (repeat (simp only [↓IntWalk.iteOmega]; (try go_simp))); (try omega)), (by (try go_simp); (repeat (simp only [↓IntWalk.iteOmega]; (try go_simp))); (try omega)), (by (try go_simp); (repeat (simp only [↓IntWalk.iteOmega]; (try go_simp))); (try omega)), (by (try go_simp); (repeat (simp only [↓IntWalk.iteOmega]; (try go_simp))); (try omega)), (by (try go_simp); (repeat (simp only [↓IntWalk.iteOmega]; (try go_simp))); (try omega))⟩
              by_cases hjm : j = m
              · subst hjm; rw [getD_of HY.out, getD_of HX.out]; exact hsame
              · exact HM.out j (by omega)
            case measure => simp [intOf]; omega
        · go_wp2
          go_roundw
          case rel =>
            refine ⟨k + 1, by omega, by go_num, Lib.hid (fun a j ha hj => ?_), HB2, by omega, hbx⟩
            by_cases hak : a = k
            · subst hak; exact HM.out j (by omega)
            · exact HN.out a j (by omega) hj
          case measure => simp [intOf]; omega
    · go_wp2
      go_ret
      refine ⟨?_, HB.out⟩
      have hkk : k = L.st.length := by omega
      subst hkk
      rw [apart_of HN.out]; rfl
end Go.Proofs.Ytdfohielnfdmkaa

/- Walks: CheckLand (package hill): the error of a land. -/
set_option linter.unusedVariables false
set_option linter.unusedSimpArgs false
namespace Go.Proofs.Ytdfohielnfdmkaa
open Go.RowKit
attribute [local go_sem low] cell_alloc_ite frozen_alloc_ite

/-- The value of 'cloud', bound to a land. -/
abbrev vCloud (V : LV) (L : Lnd) : Value := .func (.func 55) #[vLnd V L] #[]

/-- How many clouds a case may have. -/
def fewC (k : List Clo) : Bool := decide (k.length ≤ 4)
theorem lim_few {L : Lnd} (h : limL L = true) (h0 : decide ((6 : Int) < L.st.length) = false) (h1 : decide ((6 : Int) < L.ri.length) = false) (h2 : decide ((4 : Int) < L.ca.length) = false) (h3 : decide ((12 : Int) < L.su.length) = false) : L.ca.all fewC = false := by
  simp only [limL, Bool.or_eq_true, decide_eq_true_eq] at h
  simp only [decide_eq_false_iff_not] at h0 h1 h2 h3
  rcases h with (((h | h) | h) | h) | h
  · omega
  · omega
  · omega
  · omega
  · rw [List.any_eq_true] at h
    obtain ⟨k, hk, hd⟩ := h
    rw [List.all_eq_false]
    exact ⟨k, hk, by simp only [fewC, decide_eq_true_eq] at hd ⊢; omega⟩

set_option maxHeartbeats 1000000 in
theorem checkLim_any (V : LV) (L : Lnd) (w : World) (h : RdL w V L) (hlim : limL L = true) :
    Calls Try.prog 44 #[vLnd V L] w fun r w' => r = .returned (.int .i64 3) ∧ Below w.heap.size w w' := by
  obtain ⟨a0, c0, a1, c1, a2, c2, a3, c3⟩ := V
  have H := Lib.hid h
  have h0 := h.l0
  have h1 := h.l1
  have h2 := h.l2
  have h3 := h.l3
  clear h
  have HL := Lib.hid (lim_few hlim)
  clear hlim
  simp only [vLnd] at *
  rcases Bool.eq_false_or_eq_true (decide ((6 : Int) < L.st.length)) with hb0 | hb0
  · go_enter Try.func44, Try.ntmps44
    go_wp2_with (go_at_call 59; refine (allFew a2 c2 L.ca fewC _ ((H.out.kept (kept_of_below (by (repeat (first | exact Below.refl _ _ | (with_reducible exact Hid.out (by assumption)) | refine below_al ?_ _ | refine below_dr ?_ | refine below_tr ?_ (by assumption) | refine below_tr ?_ (Bel.out (by assumption)) | refine below_tr ?_ (Bel.out (ov_bel _ _)) | refine below_set ?_ (by simp; try omega)))))).ca) (by omega) (fun x A2 c2 W hW hr hc h7 => few_any A2 x.length c2 W h7)).mono ?_; rintro e w' ⟨rfl, hb⟩; rw [HL.out hb0 hb1 hb2 hb3])
    go_ret
    exact ⟨rfl, by (repeat (first | exact Below.refl _ _ | (with_reducible exact Hid.out (by assumption)) | refine below_al ?_ _ | refine below_dr ?_ | refine below_tr ?_ (by assumption) | refine below_tr ?_ (Bel.out (by assumption)) | refine below_tr ?_ (Bel.out (ov_bel _ _)) | refine below_set ?_ (by simp; try omega)))⟩
  · rcases Bool.eq_false_or_eq_true (decide ((6 : Int) < L.ri.length)) with hb1 | hb1
    · go_enter Try.func44, Try.ntmps44
      go_wp2_with (go_at_call 59; refine (allFew a2 c2 L.ca fewC _ ((H.out.kept (kept_of_below (by (repeat (first | exact Below.refl _ _ | (with_reducible exact Hid.out (by assumption)) | refine below_al ?_ _ | refine below_dr ?_ | refine below_tr ?_ (by assumption) | refine below_tr ?_ (Bel.out (by assumption)) | refine below_tr ?_ (Bel.out (ov_bel _ _)) | refine below_set ?_ (by simp; try omega)))))).ca) (by omega) (fun x A2 c2 W hW hr hc h7 => few_any A2 x.length c2 W h7)).mono ?_; rintro e w' ⟨rfl, hb⟩; rw [HL.out hb0 hb1 hb2 hb3])
      go_ret
      exact ⟨rfl, by (repeat (first | exact Below.refl _ _ | (with_reducible exact Hid.out (by assumption)) | refine below_al ?_ _ | refine below_dr ?_ | refine below_tr ?_ (by assumption) | refine below_tr ?_ (Bel.out (by assumption)) | refine below_tr ?_ (Bel.out (ov_bel _ _)) | refine below_set ?_ (by simp; try omega)))⟩
    · rcases Bool.eq_false_or_eq_true (decide ((4 : Int) < L.ca.length)) with hb2 | hb2
      · go_enter Try.func44, Try.ntmps44
        go_wp2_with (go_at_call 59; refine (allFew a2 c2 L.ca fewC _ ((H.out.kept (kept_of_below (by (repeat (first | exact Below.refl _ _ | (with_reducible exact Hid.out (by assumption)) | refine below_al ?_ _ | refine below_dr ?_ | refine below_tr ?_ (by assumption) | refine below_tr ?_ (Bel.out (by assumption)) | refine below_tr ?_ (Bel.out (ov_bel _ _)) | refine below_set ?_ (by simp; try omega)))))).ca) (by omega) (fun x A2 c2 W hW hr hc h7 => few_any A2 x.length c2 W h7)).mono ?_; rintro e w' ⟨rfl, hb⟩; rw [HL.out hb0 hb1 hb2 hb3])
        go_ret
        exact ⟨rfl, by (repeat (first | exact Below.refl _ _ | (with_reducible exact Hid.out (by assumption)) | refine below_al ?_ _ | refine below_dr ?_ | refine below_tr ?_ (by assumption) | refine below_tr ?_ (Bel.out (by assumption)) | refine below_tr ?_ (Bel.out (ov_bel _ _)) | refine below_set ?_ (by simp; try omega)))⟩
      · rcases Bool.eq_false_or_eq_true (decide ((12 : Int) < L.su.length)) with hb3 | hb3
        · go_enter Try.func44, Try.ntmps44
          go_wp2_with (go_at_call 59; refine (allFew a2 c2 L.ca fewC _ ((H.out.kept (kept_of_below (by (repeat (first | exact Below.refl _ _ | (with_reducible exact Hid.out (by assumption)) | refine below_al ?_ _ | refine below_dr ?_ | refine below_tr ?_ (by assumption) | refine below_tr ?_ (Bel.out (by assumption)) | refine below_tr ?_ (Bel.out (ov_bel _ _)) | refine below_set ?_ (by simp; try omega)))))).ca) (by omega) (fun x A2 c2 W hW hr hc h7 => few_any A2 x.length c2 W h7)).mono ?_; rintro e w' ⟨rfl, hb⟩; rw [HL.out hb0 hb1 hb2 hb3])
          go_ret
          exact ⟨rfl, by (repeat (first | exact Below.refl _ _ | (with_reducible exact Hid.out (by assumption)) | refine below_al ?_ _ | refine below_dr ?_ | refine below_tr ?_ (by assumption) | refine below_tr ?_ (Bel.out (by assumption)) | refine below_tr ?_ (Bel.out (ov_bel _ _)) | refine below_set ?_ (by simp; try omega)))⟩
        · go_enter Try.func44, Try.ntmps44
          go_wp2_with (go_at_call 59; refine (allFew a2 c2 L.ca fewC _ ((H.out.kept (kept_of_below (by (repeat (first | exact Below.refl _ _ | (with_reducible exact Hid.out (by assumption)) | refine below_al ?_ _ | refine below_dr ?_ | refine below_tr ?_ (by assumption) | refine below_tr ?_ (Bel.out (by assumption)) | refine below_tr ?_ (Bel.out (ov_bel _ _)) | refine below_set ?_ (by simp; try omega)))))).ca) (by omega) (fun x A2 c2 W hW hr hc h7 => few_any A2 x.length c2 W h7)).mono ?_; rintro e w' ⟨rfl, hb⟩; rw [HL.out hb0 hb1 hb2 hb3])
          go_ret
          exact ⟨rfl, by (repeat (first | exact Below.refl _ _ | (with_reducible exact Hid.out (by assumption)) | refine below_al ?_ _ | refine below_dr ?_ | refine below_tr ?_ (by assumption) | refine below_tr ?_ (Bel.out (by assumption)) | refine below_tr ?_ (Bel.out (ov_bel _ _)) | refine below_set ?_ (by simp; try omega)))⟩

theorem lim_not {L : Lnd} (h : limL L = false) : decide ((6 : Int) < L.st.length) = false ∧ decide ((6 : Int) < L.ri.length) = false ∧ decide ((4 : Int) < L.ca.length) = false ∧ decide ((12 : Int) < L.su.length) = false ∧ L.ca.all fewC = true := by
  simp only [limL, Bool.or_eq_false_iff, decide_eq_false_iff_not] at h
  obtain ⟨⟨⟨⟨h0, h1⟩, h2⟩, h3⟩, h4⟩ := h
  simp only [decide_eq_false_iff_not]
  refine ⟨by omega, by omega, by omega, by omega, ?_⟩
  rw [List.all_eq_true]
  intro k hk
  have := List.any_eq_false.1 h4 k hk
  simp only [fewC, decide_eq_true_eq] at this ⊢; omega

def closOk (L : Lnd) (k : List Clo) : Bool := k.all (cloOk L.su.length)
theorem bad_eq (L : Lnd) : badL L = (((L.st.length : Int) == 0) || ((L.ca.length : Int) == 0) || ((L.su.length : Int) == 0) || !L.st.all staOk || !apart L.st || !L.ri.all ridOk || !L.ca.all (closOk L) || !L.su.all sunOk) := by
  have e (n : Nat) : ((n : Int) == 0) = decide (n = 0) := by rw [Bool.eq_iff_iff]; simp
  rw [e, e, e]; rfl

set_option maxHeartbeats 4000000 in
theorem checkBad_any (V : LV) (L : Lnd) (w : World) (h : RdL w V L) (hlim : limL L = false) :
    Calls Try.prog 44 #[vLnd V L] w fun r w' => r = .returned (.int .i64 (faultL L)) ∧ Below w.heap.size w w' := by
  obtain ⟨a0, c0, a1, c1, a2, c2, a3, c3⟩ := V
  have H := Lib.hid h
  have h0 := h.l0
  have h1 := h.l1
  have h2 := h.l2
  have h3 := h.l3
  clear h
  obtain ⟨d0, d1, d2, d3, d4⟩ := lim_not hlim
  have D4 := Lib.hid d4
  have HBad := Lib.hid (bad_eq L)
  have HF : Hid (faultL L = if badL L then 1 else 0) := Lib.hid (by simp [faultL, hlim])
  clear hlim d4
  simp only [vLnd] at *
  rcases Bool.eq_false_or_eq_true (((L.st.length : Int) == 0)) with hb0 | hb0
  · go_enter Try.func44, Try.ntmps44
    go_wp2_with (go_at_call 59; refine (allFew a2 c2 L.ca fewC _ ((H.out.kept (kept_of_below (by (repeat (first | exact Below.refl _ _ | (with_reducible exact Hid.out (by assumption)) | refine below_al ?_ _ | refine below_dr ?_ | refine below_tr ?_ (by assumption) | refine below_tr ?_ (Bel.out (by assumption)) | refine below_tr ?_ (Bel.out (ov_bel _ _)) | refine below_set ?_ (by simp; try omega)))))).ca) (by omega) (fun x A2 c2 W hW hr hc h7 => few_any A2 x.length c2 W h7)).mono ?_; rintro e w1 ⟨rfl, hb⟩; rw [D4.out]; obtain ⟨hc, hf⟩ := bcell hb; have hz := hb.size; try simp at hz)
    go_wp2_with (first
      | (go_at_call 60; refine (allSta a0 c0 L.st staOk _ ((H.out.kept (kept_of_below (by (repeat (first | exact Below.refl _ _ | (with_reducible exact Hid.out (by assumption)) | refine below_al ?_ _ | refine below_dr ?_ | refine below_tr ?_ (by assumption) | refine below_tr ?_ (Bel.out (by assumption)) | refine below_tr ?_ (Bel.out (ov_bel _ _)) | refine below_set ?_ (by simp; try omega)))))).st) (by omega) (fun x W _ => staValid_any x.x x.y x.z x.m W)).mono ?_; rintro e w' ⟨rfl, hb⟩; obtain ⟨hc, hf⟩ := bcell hb; have hz := hb.size; try simp at hz)
      | (go_at_call 62; refine (apart_any ⟨a0, c0, a1, c1, a2, c2, a3, c3⟩ L _ (H.out.kept (kept_of_below (by (repeat (first | exact Below.refl _ _ | (with_reducible exact Hid.out (by assumption)) | refine below_al ?_ _ | refine below_dr ?_ | refine below_tr ?_ (by assumption) | refine below_tr ?_ (Bel.out (by assumption)) | refine below_tr ?_ (Bel.out (ov_bel _ _)) | refine below_set ?_ (by simp; try omega))))))).mono ?_; rintro e w' ⟨rfl, hb⟩; obtain ⟨hc, hf⟩ := bcell hb; have hz := hb.size; try simp at hz)
      | (go_at_call 63; refine (allWal a1 c1 L.ri ridOk _ ((H.out.kept (kept_of_below (by (repeat (first | exact Below.refl _ _ | (with_reducible exact Hid.out (by assumption)) | refine below_al ?_ _ | refine below_dr ?_ | refine below_tr ?_ (by assumption) | refine below_tr ?_ (Bel.out (by assumption)) | refine below_tr ?_ (Bel.out (ov_bel _ _)) | refine below_set ?_ (by simp; try omega)))))).ri) (by omega) (fun x W _ => ridge_any x.x1 x.y1 x.x2 x.y2 x.b x.t W)).mono ?_; rintro e w' ⟨rfl, hb⟩; obtain ⟨hc, hf⟩ := bcell hb; have hz := hb.size; try simp at hz)
      | (go_at_call 65; refine (allSun a3 c3 L.su sunOk _ ((H.out.kept (kept_of_below (by (repeat (first | exact Below.refl _ _ | (with_reducible exact Hid.out (by assumption)) | refine below_al ?_ _ | refine below_dr ?_ | refine below_tr ?_ (by assumption) | refine below_tr ?_ (Bel.out (by assumption)) | refine below_tr ?_ (Bel.out (ov_bel _ _)) | refine below_set ?_ (by simp; try omega)))))).su) (by omega) (fun x W _ => sunValid_any x.e x.n x.u W)).mono ?_; rintro e w' ⟨rfl, hb⟩; obtain ⟨hc, hf⟩ := bcell hb; have hz := hb.size; try simp at hz)
      | (go_at_call 59; refine (allClos (w.heap.size + 1) a2 c2 L.ca (closOk L) _ ((H.out.kept (kept_of_below (by (repeat (first | exact Below.refl _ _ | (with_reducible exact Hid.out (by assumption)) | refine below_al ?_ _ | refine below_dr ?_ | refine below_tr ?_ (by assumption) | refine below_tr ?_ (Bel.out (by assumption)) | refine below_tr ?_ (Bel.out (ov_bel _ _)) | refine below_set ?_ (by simp; try omega)))))).ca) (by omega) (fun x A4 c4 W hW hr hcc h7 => clouds_any ⟨a0, c0, a1, c1, a2, c2, a3, c3⟩ L A4 c4 (w.heap.size + 1) x W h3 ((kept_of_below hW) _ _ (by (try go_simp); (repeat (simp only [↓IntWalk.iteOmega]; (try go_simp))); (try omega))) hr h7)).mono ?_; rintro e w' ⟨rfl, hb⟩; obtain ⟨hc, hf⟩ := bcell hb; have hz := hb.size; try simp at hz))
    go_ret
    exact ⟨by rw [HF.out, HBad.out]; simp_all, by (repeat (first | exact Below.refl _ _ | (with_reducible exact Hid.out (by assumption)) | refine below_al ?_ _ | refine below_dr ?_ | refine below_tr ?_ (by assumption) | refine below_tr ?_ (Bel.out (by assumption)) | refine below_tr ?_ (Bel.out (ov_bel _ _)) | refine below_set ?_ (by simp; try omega)))⟩
  · rcases Bool.eq_false_or_eq_true (((L.ca.length : Int) == 0)) with hb1 | hb1
    · go_enter Try.func44, Try.ntmps44
      go_wp2_with (go_at_call 59; refine (allFew a2 c2 L.ca fewC _ ((H.out.kept (kept_of_below (by (repeat (first | exact Below.refl _ _ | (with_reducible exact Hid.out (by assumption)) | refine below_al ?_ _ | refine below_dr ?_ | refine below_tr ?_ (by assumption) | refine below_tr ?_ (Bel.out (by assumption)) | refine below_tr ?_ (Bel.out (ov_bel _ _)) | refine below_set ?_ (by simp; try omega)))))).ca) (by omega) (fun x A2 c2 W hW hr hc h7 => few_any A2 x.length c2 W h7)).mono ?_; rintro e w1 ⟨rfl, hb⟩; rw [D4.out]; obtain ⟨hc, hf⟩ := bcell hb; have hz := hb.size; try simp at hz)
      go_wp2_with (first
        | (go_at_call 60; refine (allSta a0 c0 L.st staOk _ ((H.out.kept (kept_of_below (by (repeat (first | exact Below.refl _ _ | (with_reducible exact Hid.out (by assumption)) | refine below_al ?_ _ | refine below_dr ?_ | refine below_tr ?_ (by assumption) | refine below_tr ?_ (Bel.out (by assumption)) | refine below_tr ?_ (Bel.out (ov_bel _ _)) | refine below_set ?_ (by simp; try omega)))))).st) (by omega) (fun x W _ => staValid_any x.x x.y x.z x.m W)).mono ?_; rintro e w' ⟨rfl, hb⟩; obtain ⟨hc, hf⟩ := bcell hb; have hz := hb.size; try simp at hz)
        | (go_at_call 62; refine (apart_any ⟨a0, c0, a1, c1, a2, c2, a3, c3⟩ L _ (H.out.kept (kept_of_below (by (repeat (first | exact Below.refl _ _ | (with_reducible exact Hid.out (by assumption)) | refine below_al ?_ _ | refine below_dr ?_ | refine below_tr ?_ (by assumption) | refine below_tr ?_ (Bel.out (by assumption)) | refine below_tr ?_ (Bel.out (ov_bel _ _)) | refine below_set ?_ (by simp; try omega))))))).mono ?_; rintro e w' ⟨rfl, hb⟩; obtain ⟨hc, hf⟩ := bcell hb; have hz := hb.size; try simp at hz)
        | (go_at_call 63; refine (allWal a1 c1 L.ri ridOk _ ((H.out.kept (kept_of_below (by (repeat (first | exact Below.refl _ _ | (with_reducible exact Hid.out (by assumption)) | refine below_al ?_ _ | refine below_dr ?_ | refine below_tr ?_ (by assumption) | refine below_tr ?_ (Bel.out (by assumption)) | refine below_tr ?_ (Bel.out (ov_bel _ _)) | refine below_set ?_ (by simp; try omega)))))).ri) (by omega) (fun x W _ => ridge_any x.x1 x.y1 x.x2 x.y2 x.b x.t W)).mono ?_; rintro e w' ⟨rfl, hb⟩; obtain ⟨hc, hf⟩ := bcell hb; have hz := hb.size; try simp at hz)
        | (go_at_call 65; refine (allSun a3 c3 L.su sunOk _ ((H.out.kept (kept_of_below (by (repeat (first | exact Below.refl _ _ | (with_reducible exact Hid.out (by assumption)) | refine below_al ?_ _ | refine below_dr ?_ | refine below_tr ?_ (by assumption) | refine below_tr ?_ (Bel.out (by assumption)) | refine below_tr ?_ (Bel.out (ov_bel _ _)) | refine below_set ?_ (by simp; try omega)))))).su) (by omega) (fun x W _ => sunValid_any x.e x.n x.u W)).mono ?_; rintro e w' ⟨rfl, hb⟩; obtain ⟨hc, hf⟩ := bcell hb; have hz := hb.size; try simp at hz)
        | (go_at_call 59; refine (allClos (w.heap.size + 1) a2 c2 L.ca (closOk L) _ ((H.out.kept (kept_of_below (by (repeat (first | exact Below.refl _ _ | (with_reducible exact Hid.out (by assumption)) | refine below_al ?_ _ | refine below_dr ?_ | refine below_tr ?_ (by assumption) | refine below_tr ?_ (Bel.out (by assumption)) | refine below_tr ?_ (Bel.out (ov_bel _ _)) | refine below_set ?_ (by simp; try omega)))))).ca) (by omega) (fun x A4 c4 W hW hr hcc h7 => clouds_any ⟨a0, c0, a1, c1, a2, c2, a3, c3⟩ L A4 c4 (w.heap.size + 1) x W h3 ((kept_of_below hW) _ _ (by (try go_simp); (repeat (simp only [↓IntWalk.iteOmega]; (try go_simp))); (try omega))) hr h7)).mono ?_; rintro e w' ⟨rfl, hb⟩; obtain ⟨hc, hf⟩ := bcell hb; have hz := hb.size; try simp at hz))
      go_ret
      exact ⟨by rw [HF.out, HBad.out]; simp_all, by (repeat (first | exact Below.refl _ _ | (with_reducible exact Hid.out (by assumption)) | refine below_al ?_ _ | refine below_dr ?_ | refine below_tr ?_ (by assumption) | refine below_tr ?_ (Bel.out (by assumption)) | refine below_tr ?_ (Bel.out (ov_bel _ _)) | refine below_set ?_ (by simp; try omega)))⟩
    · rcases Bool.eq_false_or_eq_true (((L.su.length : Int) == 0)) with hb2 | hb2
      · go_enter Try.func44, Try.ntmps44
        go_wp2_with (go_at_call 59; refine (allFew a2 c2 L.ca fewC _ ((H.out.kept (kept_of_below (by (repeat (first | exact Below.refl _ _ | (with_reducible exact Hid.out (by assumption)) | refine below_al ?_ _ | refine below_dr ?_ | refine below_tr ?_ (by assumption) | refine below_tr ?_ (Bel.out (by assumption)) | refine below_tr ?_ (Bel.out (ov_bel _ _)) | refine below_set ?_ (by simp; try omega)))))).ca) (by omega) (fun x A2 c2 W hW hr hc h7 => few_any A2 x.length c2 W h7)).mono ?_; rintro e w1 ⟨rfl, hb⟩; rw [D4.out]; obtain ⟨hc, hf⟩ := bcell hb; have hz := hb.size; try simp at hz)
        go_wp2_with (first
          | (go_at_call 60; refine (allSta a0 c0 L.st staOk _ ((H.out.kept (kept_of_below (by (repeat (first | exact Below.refl _ _ | (with_reducible exact Hid.out (by assumption)) | refine below_al ?_ _ | refine below_dr ?_ | refine below_tr ?_ (by assumption) | refine below_tr ?_ (Bel.out (by assumption)) | refine below_tr ?_ (Bel.out (ov_bel _ _)) | refine below_set ?_ (by simp; try omega)))))).st) (by omega) (fun x W _ => staValid_any x.x x.y x.z x.m W)).mono ?_; rintro e w' ⟨rfl, hb⟩; obtain ⟨hc, hf⟩ := bcell hb; have hz := hb.size; try simp at hz)
          | (go_at_call 62; refine (apart_any ⟨a0, c0, a1, c1, a2, c2, a3, c3⟩ L _ (H.out.kept (kept_of_below (by (repeat (first | exact Below.refl _ _ | (with_reducible exact Hid.out (by assumption)) | refine below_al ?_ _ | refine below_dr ?_ | refine below_tr ?_ (by assumption) | refine below_tr ?_ (Bel.out (by assumption)) | refine below_tr ?_ (Bel.out (ov_bel _ _)) | refine below_set ?_ (by simp; try omega))))))).mono ?_; rintro e w' ⟨rfl, hb⟩; obtain ⟨hc, hf⟩ := bcell hb; have hz := hb.size; try simp at hz)
          | (go_at_call 63; refine (allWal a1 c1 L.ri ridOk _ ((H.out.kept (kept_of_below (by (repeat (first | exact Below.refl _ _ | (with_reducible exact Hid.out (by assumption)) | refine below_al ?_ _ | refine below_dr ?_ | refine below_tr ?_ (by assumption) | refine below_tr ?_ (Bel.out (by assumption)) | refine below_tr ?_ (Bel.out (ov_bel _ _)) | refine below_set ?_ (by simp; try omega)))))).ri) (by omega) (fun x W _ => ridge_any x.x1 x.y1 x.x2 x.y2 x.b x.t W)).mono ?_; rintro e w' ⟨rfl, hb⟩; obtain ⟨hc, hf⟩ := bcell hb; have hz := hb.size; try simp at hz)
          | (go_at_call 65; refine (allSun a3 c3 L.su sunOk _ ((H.out.kept (kept_of_below (by (repeat (first | exact Below.refl _ _ | (with_reducible exact Hid.out (by assumption)) | refine below_al ?_ _ | refine below_dr ?_ | refine below_tr ?_ (by assumption) | refine below_tr ?_ (Bel.out (by assumption)) | refine below_tr ?_ (Bel.out (ov_bel _ _)) | refine below_set ?_ (by simp; try omega)))))).su) (by omega) (fun x W _ => sunValid_any x.e x.n x.u W)).mono ?_; rintro e w' ⟨rfl, hb⟩; obtain ⟨hc, hf⟩ := bcell hb; have hz := hb.size; try simp at hz)
          | (go_at_call 59; refine (allClos (w.heap.size + 1) a2 c2 L.ca (closOk L) _ ((H.out.kept (kept_of_below (by (repeat (first | exact Below.refl _ _ | (with_reducible exact Hid.out (by assumption)) | refine below_al ?_ _ | refine below_dr ?_ | refine below_tr ?_ (by assumption) | refine below_tr ?_ (Bel.out (by assumption)) | refine below_tr ?_ (Bel.out (ov_bel _ _)) | refine below_set ?_ (by simp; try omega)))))).ca) (by omega) (fun x A4 c4 W hW hr hcc h7 => clouds_any ⟨a0, c0, a1, c1, a2, c2, a3, c3⟩ L A4 c4 (w.heap.size + 1) x W h3 ((kept_of_below hW) _ _ (by (try go_simp); (repeat (simp only [↓IntWalk.iteOmega]; (try go_simp))); (try omega))) hr h7)).mono ?_; rintro e w' ⟨rfl, hb⟩; obtain ⟨hc, hf⟩ := bcell hb; have hz := hb.size; try simp at hz))
        go_ret
        exact ⟨by rw [HF.out, HBad.out]; simp_all, by (repeat (first | exact Below.refl _ _ | (with_reducible exact Hid.out (by assumption)) | refine below_al ?_ _ | refine below_dr ?_ | refine below_tr ?_ (by assumption) | refine below_tr ?_ (Bel.out (by assumption)) | refine below_tr ?_ (Bel.out (ov_bel _ _)) | refine below_set ?_ (by simp; try omega)))⟩
      · rcases Bool.eq_false_or_eq_true (!L.st.all staOk) with hb3 | hb3
        · go_enter Try.func44, Try.ntmps44
          go_wp2_with (go_at_call 59; refine (allFew a2 c2 L.ca fewC _ ((H.out.kept (kept_of_below (by (repeat (first | exact Below.refl _ _ | (with_reducible exact Hid.out (by assumption)) | refine below_al ?_ _ | refine below_dr ?_ | refine below_tr ?_ (by assumption) | refine below_tr ?_ (Bel.out (by assumption)) | refine below_tr ?_ (Bel.out (ov_bel _ _)) | refine below_set ?_ (by simp; try omega)))))).ca) (by omega) (fun x A2 c2 W hW hr hc h7 => few_any A2 x.length c2 W h7)).mono ?_; rintro e w1 ⟨rfl, hb⟩; rw [D4.out]; obtain ⟨hc, hf⟩ := bcell hb; have hz := hb.size; try simp at hz)
          go_wp2_with (first
            | (go_at_call 60; refine (allSta a0 c0 L.st staOk _ ((H.out.kept (kept_of_below (by (repeat (first | exact Below.refl _ _ | (with_reducible exact Hid.out (by assumption)) | refine below_al ?_ _ | refine below_dr ?_ | refine below_tr ?_ (by assumption) | refine below_tr ?_ (Bel.out (by assumption)) | refine below_tr ?_ (Bel.out (ov_bel _ _)) | refine below_set ?_ (by simp; try omega)))))).st) (by omega) (fun x W _ => staValid_any x.x x.y x.z x.m W)).mono ?_; rintro e w' ⟨rfl, hb⟩; obtain ⟨hc, hf⟩ := bcell hb; have hz := hb.size; try simp at hz)
            | (go_at_call 62; refine (apart_any ⟨a0, c0, a1, c1, a2, c2, a3, c3⟩ L _ (H.out.kept (kept_of_below (by (repeat (first | exact Below.refl _ _ | (with_reducible exact Hid.out (by assumption)) | refine below_al ?_ _ | refine below_dr ?_ | refine below_tr ?_ (by assumption) | refine below_tr ?_ (Bel.out (by assumption)) | refine below_tr ?_ (Bel.out (ov_bel _ _)) | refine below_set ?_ (by simp; try omega))))))).mono ?_; rintro e w' ⟨rfl, hb⟩; obtain ⟨hc, hf⟩ := bcell hb; have hz := hb.size; try simp at hz)
            | (go_at_call 63; refine (allWal a1 c1 L.ri ridOk _ ((H.out.kept (kept_of_below (by (repeat (first | exact Below.refl _ _ | (with_reducible exact Hid.out (by assumption)) | refine below_al ?_ _ | refine below_dr ?_ | refine below_tr ?_ (by assumption) | refine below_tr ?_ (Bel.out (by assumption)) | refine below_tr ?_ (Bel.out (ov_bel _ _)) | refine below_set ?_ (by simp; try omega)))))).ri) (by omega) (fun x W _ => ridge_any x.x1 x.y1 x.x2 x.y2 x.b x.t W)).mono ?_; rintro e w' ⟨rfl, hb⟩; obtain ⟨hc, hf⟩ := bcell hb; have hz := hb.size; try simp at hz)
            | (go_at_call 65; refine (allSun a3 c3 L.su sunOk _ ((H.out.kept (kept_of_below (by (repeat (first | exact Below.refl _ _ | (with_reducible exact Hid.out (by assumption)) | refine below_al ?_ _ | refine below_dr ?_ | refine below_tr ?_ (by assumption) | refine below_tr ?_ (Bel.out (by assumption)) | refine below_tr ?_ (Bel.out (ov_bel _ _)) | refine below_set ?_ (by simp; try omega)))))).su) (by omega) (fun x W _ => sunValid_any x.e x.n x.u W)).mono ?_; rintro e w' ⟨rfl, hb⟩; obtain ⟨hc, hf⟩ := bcell hb; have hz := hb.size; try simp at hz)
            | (go_at_call 59; refine (allClos (w.heap.size + 1) a2 c2 L.ca (closOk L) _ ((H.out.kept (kept_of_below (by (repeat (first | exact Below.refl _ _ | (with_reducible exact Hid.out (by assumption)) | refine below_al ?_ _ | refine below_dr ?_ | refine below_tr ?_ (by assumption) | refine below_tr ?_ (Bel.out (by assumption)) | refine below_tr ?_ (Bel.out (ov_bel _ _)) | refine below_set ?_ (by simp; try omega)))))).ca) (by omega) (fun x A4 c4 W hW hr hcc h7 => clouds_any ⟨a0, c0, a1, c1, a2, c2, a3, c3⟩ L A4 c4 (w.heap.size + 1) x W h3 ((kept_of_below hW) _ _ (by (try go_simp); (repeat (simp only [↓IntWalk.iteOmega]; (try go_simp))); (try omega))) hr h7)).mono ?_; rintro e w' ⟨rfl, hb⟩; obtain ⟨hc, hf⟩ := bcell hb; have hz := hb.size; try simp at hz))
          go_ret
          exact ⟨by rw [HF.out, HBad.out]; simp_all, by (repeat (first | exact Below.refl _ _ | (with_reducible exact Hid.out (by assumption)) | refine below_al ?_ _ | refine below_dr ?_ | refine below_tr ?_ (by assumption) | refine below_tr ?_ (Bel.out (by assumption)) | refine below_tr ?_ (Bel.out (ov_bel _ _)) | refine below_set ?_ (by simp; try omega)))⟩
        · rcases Bool.eq_false_or_eq_true (!apart L.st) with hb4 | hb4
          · go_enter Try.func44, Try.ntmps44
            go_wp2_with (go_at_call 59; refine (allFew a2 c2 L.ca fewC _ ((H.out.kept (kept_of_below (by (repeat (first | exact Below.refl _ _ | (with_reducible exact Hid.out (by assumption)) | refine below_al ?_ _ | refine below_dr ?_ | refine below_tr ?_ (by assumption) | refine below_tr ?_ (Bel.out (by assumption)) | refine below_tr ?_ (Bel.out (ov_bel _ _)) | refine below_set ?_ (by simp; try omega)))))).ca) (by omega) (fun x A2 c2 W hW hr hc h7 => few_any A2 x.length c2 W h7)).mono ?_; rintro e w1 ⟨rfl, hb⟩; rw [D4.out]; obtain ⟨hc, hf⟩ := bcell hb; have hz := hb.size; try simp at hz)
            go_wp2_with (first
              | (go_at_call 60; refine (allSta a0 c0 L.st staOk _ ((H.out.kept (kept_of_below (by (repeat (first | exact Below.refl _ _ | (with_reducible exact Hid.out (by assumption)) | refine below_al ?_ _ | refine below_dr ?_ | refine below_tr ?_ (by assumption) | refine below_tr ?_ (Bel.out (by assumption)) | refine below_tr ?_ (Bel.out (ov_bel _ _)) | refine below_set ?_ (by simp; try omega)))))).st) (by omega) (fun x W _ => staValid_any x.x x.y x.z x.m W)).mono ?_; rintro e w' ⟨rfl, hb⟩; obtain ⟨hc, hf⟩ := bcell hb; have hz := hb.size; try simp at hz)
              | (go_at_call 62; refine (apart_any ⟨a0, c0, a1, c1, a2, c2, a3, c3⟩ L _ (H.out.kept (kept_of_below (by (repeat (first | exact Below.refl _ _ | (with_reducible exact Hid.out (by assumption)) | refine below_al ?_ _ | refine below_dr ?_ | refine below_tr ?_ (by assumption) | refine below_tr ?_ (Bel.out (by assumption)) | refine below_tr ?_ (Bel.out (ov_bel _ _)) | refine below_set ?_ (by simp; try omega))))))).mono ?_; rintro e w' ⟨rfl, hb⟩; obtain ⟨hc, hf⟩ := bcell hb; have hz := hb.size; try simp at hz)
              | (go_at_call 63; refine (allWal a1 c1 L.ri ridOk _ ((H.out.kept (kept_of_below (by (repeat (first | exact Below.refl _ _ | (with_reducible exact Hid.out (by assumption)) | refine below_al ?_ _ | refine below_dr ?_ | refine below_tr ?_ (by assumption) | refine below_tr ?_ (Bel.out (by assumption)) | refine below_tr ?_ (Bel.out (ov_bel _ _)) | refine below_set ?_ (by simp; try omega)))))).ri) (by omega) (fun x W _ => ridge_any x.x1 x.y1 x.x2 x.y2 x.b x.t W)).mono ?_; rintro e w' ⟨rfl, hb⟩; obtain ⟨hc, hf⟩ := bcell hb; have hz := hb.size; try simp at hz)
              | (go_at_call 65; refine (allSun a3 c3 L.su sunOk _ ((H.out.kept (kept_of_below (by (repeat (first | exact Below.refl _ _ | (with_reducible exact Hid.out (by assumption)) | refine below_al ?_ _ | refine below_dr ?_ | refine below_tr ?_ (by assumption) | refine below_tr ?_ (Bel.out (by assumption)) | refine below_tr ?_ (Bel.out (ov_bel _ _)) | refine below_set ?_ (by simp; try omega)))))).su) (by omega) (fun x W _ => sunValid_any x.e x.n x.u W)).mono ?_; rintro e w' ⟨rfl, hb⟩; obtain ⟨hc, hf⟩ := bcell hb; have hz := hb.size; try simp at hz)
              | (go_at_call 59; refine (allClos (w.heap.size + 1) a2 c2 L.ca (closOk L) _ ((H.out.kept (kept_of_below (by (repeat (first | exact Below.refl _ _ | (with_reducible exact Hid.out (by assumption)) | refine below_al ?_ _ | refine below_dr ?_ | refine below_tr ?_ (by assumption) | refine below_tr ?_ (Bel.out (by assumption)) | refine below_tr ?_ (Bel.out (ov_bel _ _)) | refine below_set ?_ (by simp; try omega)))))).ca) (by omega) (fun x A4 c4 W hW hr hcc h7 => clouds_any ⟨a0, c0, a1, c1, a2, c2, a3, c3⟩ L A4 c4 (w.heap.size + 1) x W h3 ((kept_of_below hW) _ _ (by (try go_simp); (repeat (simp only [↓IntWalk.iteOmega]; (try go_simp))); (try omega))) hr h7)).mono ?_; rintro e w' ⟨rfl, hb⟩; obtain ⟨hc, hf⟩ := bcell hb; have hz := hb.size; try simp at hz))
            go_ret
            exact ⟨by rw [HF.out, HBad.out]; simp_all, by (repeat (first | exact Below.refl _ _ | (with_reducible exact Hid.out (by assumption)) | refine below_al ?_ _ | refine below_dr ?_ | refine below_tr ?_ (by assumption) | refine below_tr ?_ (Bel.out (by assumption)) | refine below_tr ?_ (Bel.out (ov_bel _ _)) | refine below_set ?_ (by simp; try omega)))⟩
          · rcases Bool.eq_false_or_eq_true (!L.ri.all ridOk) with hb5 | hb5
            · go_enter Try.func44, Try.ntmps44
              go_wp2_with (go_at_call 59; refine (allFew a2 c2 L.ca fewC _ ((H.out.kept (kept_of_below (by (repeat (first | exact Below.refl _ _ | (with_reducible exact Hid.out (by assumption)) | refine below_al ?_ _ | refine below_dr ?_ | refine below_tr ?_ (by assumption) | refine below_tr ?_ (Bel.out (by assumption)) | refine below_tr ?_ (Bel.out (ov_bel _ _)) | refine below_set ?_ (by simp; try omega)))))).ca) (by omega) (fun x A2 c2 W hW hr hc h7 => few_any A2 x.length c2 W h7)).mono ?_; rintro e w1 ⟨rfl, hb⟩; rw [D4.out]; obtain ⟨hc, hf⟩ := bcell hb; have hz := hb.size; try simp at hz)
              go_wp2_with (first
                | (go_at_call 60; refine (allSta a0 c0 L.st staOk _ ((H.out.kept (kept_of_below (by (repeat (first | exact Below.refl _ _ | (with_reducible exact Hid.out (by assumption)) | refine below_al ?_ _ | refine below_dr ?_ | refine below_tr ?_ (by assumption) | refine below_tr ?_ (Bel.out (by assumption)) | refine below_tr ?_ (Bel.out (ov_bel _ _)) | refine below_set ?_ (by simp; try omega)))))).st) (by omega) (fun x W _ => staValid_any x.x x.y x.z x.m W)).mono ?_; rintro e w' ⟨rfl, hb⟩; obtain ⟨hc, hf⟩ := bcell hb; have hz := hb.size; try simp at hz)
                | (go_at_call 62; refine (apart_any ⟨a0, c0, a1, c1, a2, c2, a3, c3⟩ L _ (H.out.kept (kept_of_below (by (repeat (first | exact Below.refl _ _ | (with_reducible exact Hid.out (by assumption)) | refine below_al ?_ _ | refine below_dr ?_ | refine below_tr ?_ (by assumption) | refine below_tr ?_ (Bel.out (by assumption)) | refine below_tr ?_ (Bel.out (ov_bel _ _)) | refine below_set ?_ (by simp; try omega))))))).mono ?_; rintro e w' ⟨rfl, hb⟩; obtain ⟨hc, hf⟩ := bcell hb; have hz := hb.size; try simp at hz)
                | (go_at_call 63; refine (allWal a1 c1 L.ri ridOk _ ((H.out.kept (kept_of_below (by (repeat (first | exact Below.refl _ _ | (with_reducible exact Hid.out (by assumption)) | refine below_al ?_ _ | refine below_dr ?_ | refine below_tr ?_ (by assumption) | refine below_tr ?_ (Bel.out (by assumption)) | refine below_tr ?_ (Bel.out (ov_bel _ _)) | refine below_set ?_ (by simp; try omega)))))).ri) (by omega) (fun x W _ => ridge_any x.x1 x.y1 x.x2 x.y2 x.b x.t W)).mono ?_; rintro e w' ⟨rfl, hb⟩; obtain ⟨hc, hf⟩ := bcell hb; have hz := hb.size; try simp at hz)
                | (go_at_call 65; refine (allSun a3 c3 L.su sunOk _ ((H.out.kept (kept_of_below (by (repeat (first | exact Below.refl _ _ | (with_reducible exact Hid.out (by assumption)) | refine below_al ?_ _ | refine below_dr ?_ | refine below_tr ?_ (by assumption) | refine below_tr ?_ (Bel.out (by assumption)) | refine below_tr ?_ (Bel.out (ov_bel _ _)) | refine below_set ?_ (by simp; try omega)))))).su) (by omega) (fun x W _ => sunValid_any x.e x.n x.u W)).mono ?_; rintro e w' ⟨rfl, hb⟩; obtain ⟨hc, hf⟩ := bcell hb; have hz := hb.size; try simp at hz)
                | (go_at_call 59; refine (allClos (w.heap.size + 1) a2 c2 L.ca (closOk L) _ ((H.out.kept (kept_of_below (by (repeat (first | exact Below.refl _ _ | (with_reducible exact Hid.out (by assumption)) | refine below_al ?_ _ | refine below_dr ?_ | refine below_tr ?_ (by assumption) | refine below_tr ?_ (Bel.out (by assumption)) | refine below_tr ?_ (Bel.out (ov_bel _ _)) | refine below_set ?_ (by simp; try omega)))))).ca) (by omega) (fun x A4 c4 W hW hr hcc h7 => clouds_any ⟨a0, c0, a1, c1, a2, c2, a3, c3⟩ L A4 c4 (w.heap.size + 1) x W h3 ((kept_of_below hW) _ _ (by (try go_simp); (repeat (simp only [↓IntWalk.iteOmega]; (try go_simp))); (try omega))) hr h7)).mono ?_; rintro e w' ⟨rfl, hb⟩; obtain ⟨hc, hf⟩ := bcell hb; have hz := hb.size; try simp at hz))
              go_ret
              exact ⟨by rw [HF.out, HBad.out]; simp_all, by (repeat (first | exact Below.refl _ _ | (with_reducible exact Hid.out (by assumption)) | refine below_al ?_ _ | refine below_dr ?_ | refine below_tr ?_ (by assumption) | refine below_tr ?_ (Bel.out (by assumption)) | refine below_tr ?_ (Bel.out (ov_bel _ _)) | refine below_set ?_ (by simp; try omega)))⟩
            · rcases Bool.eq_false_or_eq_true (!L.ca.all (closOk L)) with hb6 | hb6
              · go_enter Try.func44, Try.ntmps44
                go_wp2_with (go_at_call 59; refine (allFew a2 c2 L.ca fewC _ ((H.out.kept (kept_of_below (by (repeat (first | exact Below.refl _ _ | (with_reducible exact Hid.out (by assumption)) | refine below_al ?_ _ | refine below_dr ?_ | refine below_tr ?_ (by assumption) | refine below_tr ?_ (Bel.out (by assumption)) | refine below_tr ?_ (Bel.out (ov_bel _ _)) | refine below_set ?_ (by simp; try omega)))))).ca) (by omega) (fun x A2 c2 W hW hr hc h7 => few_any A2 x.length c2 W h7)).mono ?_; rintro e w1 ⟨rfl, hb⟩; rw [D4.out]; obtain ⟨hc, hf⟩ := bcell hb; have hz := hb.size; try simp at hz)
                go_wp2_with (first
                  | (go_at_call 60; refine (allSta a0 c0 L.st staOk _ ((H.out.kept (kept_of_below (by (repeat (first | exact Below.refl _ _ | (with_reducible exact Hid.out (by assumption)) | refine below_al ?_ _ | refine below_dr ?_ | refine below_tr ?_ (by assumption) | refine below_tr ?_ (Bel.out (by assumption)) | refine below_tr ?_ (Bel.out (ov_bel _ _)) | refine below_set ?_ (by simp; try omega)))))).st) (by omega) (fun x W _ => staValid_any x.x x.y x.z x.m W)).mono ?_; rintro e w' ⟨rfl, hb⟩; obtain ⟨hc, hf⟩ := bcell hb; have hz := hb.size; try simp at hz)
                  | (go_at_call 62; refine (apart_any ⟨a0, c0, a1, c1, a2, c2, a3, c3⟩ L _ (H.out.kept (kept_of_below (by (repeat (first | exact Below.refl _ _ | (with_reducible exact Hid.out (by assumption)) | refine below_al ?_ _ | refine below_dr ?_ | refine below_tr ?_ (by assumption) | refine below_tr ?_ (Bel.out (by assumption)) | refine below_tr ?_ (Bel.out (ov_bel _ _)) | refine below_set ?_ (by simp; try omega))))))).mono ?_; rintro e w' ⟨rfl, hb⟩; obtain ⟨hc, hf⟩ := bcell hb; have hz := hb.size; try simp at hz)
                  | (go_at_call 63; refine (allWal a1 c1 L.ri ridOk _ ((H.out.kept (kept_of_below (by (repeat (first | exact Below.refl _ _ | (with_reducible exact Hid.out (by assumption)) | refine below_al ?_ _ | refine below_dr ?_ | refine below_tr ?_ (by assumption) | refine below_tr ?_ (Bel.out (by assumption)) | refine below_tr ?_ (Bel.out (ov_bel _ _)) | refine below_set ?_ (by simp; try omega)))))).ri) (by omega) (fun x W _ => ridge_any x.x1 x.y1 x.x2 x.y2 x.b x.t W)).mono ?_; rintro e w' ⟨rfl, hb⟩; obtain ⟨hc, hf⟩ := bcell hb; have hz := hb.size; try simp at hz)
                  | (go_at_call 65; refine (allSun a3 c3 L.su sunOk _ ((H.out.kept (kept_of_below (by (repeat (first | exact Below.refl _ _ | (with_reducible exact Hid.out (by assumption)) | refine below_al ?_ _ | refine below_dr ?_ | refine below_tr ?_ (by assumption) | refine below_tr ?_ (Bel.out (by assumption)) | refine below_tr ?_ (Bel.out (ov_bel _ _)) | refine below_set ?_ (by simp; try omega)))))).su) (by omega) (fun x W _ => sunValid_any x.e x.n x.u W)).mono ?_; rintro e w' ⟨rfl, hb⟩; obtain ⟨hc, hf⟩ := bcell hb; have hz := hb.size; try simp at hz)
                  | (go_at_call 59; refine (allClos (w.heap.size + 1) a2 c2 L.ca (closOk L) _ ((H.out.kept (kept_of_below (by (repeat (first | exact Below.refl _ _ | (with_reducible exact Hid.out (by assumption)) | refine below_al ?_ _ | refine below_dr ?_ | refine below_tr ?_ (by assumption) | refine below_tr ?_ (Bel.out (by assumption)) | refine below_tr ?_ (Bel.out (ov_bel _ _)) | refine below_set ?_ (by simp; try omega)))))).ca) (by omega) (fun x A4 c4 W hW hr hcc h7 => clouds_any ⟨a0, c0, a1, c1, a2, c2, a3, c3⟩ L A4 c4 (w.heap.size + 1) x W h3 ((kept_of_below hW) _ _ (by (try go_simp); (repeat (simp only [↓IntWalk.iteOmega]; (try go_simp))); (try omega))) hr h7)).mono ?_; rintro e w' ⟨rfl, hb⟩; obtain ⟨hc, hf⟩ := bcell hb; have hz := hb.size; try simp at hz))
                go_ret
                exact ⟨by rw [HF.out, HBad.out]; simp_all, by (repeat (first | exact Below.refl _ _ | (with_reducible exact Hid.out (by assumption)) | refine below_al ?_ _ | refine below_dr ?_ | refine below_tr ?_ (by assumption) | refine below_tr ?_ (Bel.out (by assumption)) | refine below_tr ?_ (Bel.out (ov_bel _ _)) | refine below_set ?_ (by simp; try omega)))⟩
              · rcases Bool.eq_false_or_eq_true (!L.su.all sunOk) with hb7 | hb7
                · go_enter Try.func44, Try.ntmps44
                  go_wp2_with (go_at_call 59; refine (allFew a2 c2 L.ca fewC _ ((H.out.kept (kept_of_below (by (repeat (first | exact Below.refl _ _ | (with_reducible exact Hid.out (by assumption)) | refine below_al ?_ _ | refine below_dr ?_ | refine below_tr ?_ (by assumption) | refine below_tr ?_ (Bel.out (by assumption)) | refine below_tr ?_ (Bel.out (ov_bel _ _)) | refine below_set ?_ (by simp; try omega)))))).ca) (by omega) (fun x A2 c2 W hW hr hc h7 => few_any A2 x.length c2 W h7)).mono ?_; rintro e w1 ⟨rfl, hb⟩; rw [D4.out]; obtain ⟨hc, hf⟩ := bcell hb; have hz := hb.size; try simp at hz)
                  go_wp2_with (first
                    | (go_at_call 60; refine (allSta a0 c0 L.st staOk _ ((H.out.kept (kept_of_below (by (repeat (first | exact Below.refl _ _ | (with_reducible exact Hid.out (by assumption)) | refine below_al ?_ _ | refine below_dr ?_ | refine below_tr ?_ (by assumption) | refine below_tr ?_ (Bel.out (by assumption)) | refine below_tr ?_ (Bel.out (ov_bel _ _)) | refine below_set ?_ (by simp; try omega)))))).st) (by omega) (fun x W _ => staValid_any x.x x.y x.z x.m W)).mono ?_; rintro e w' ⟨rfl, hb⟩; obtain ⟨hc, hf⟩ := bcell hb; have hz := hb.size; try simp at hz)
                    | (go_at_call 62; refine (apart_any ⟨a0, c0, a1, c1, a2, c2, a3, c3⟩ L _ (H.out.kept (kept_of_below (by (repeat (first | exact Below.refl _ _ | (with_reducible exact Hid.out (by assumption)) | refine below_al ?_ _ | refine below_dr ?_ | refine below_tr ?_ (by assumption) | refine below_tr ?_ (Bel.out (by assumption)) | refine below_tr ?_ (Bel.out (ov_bel _ _)) | refine below_set ?_ (by simp; try omega))))))).mono ?_; rintro e w' ⟨rfl, hb⟩; obtain ⟨hc, hf⟩ := bcell hb; have hz := hb.size; try simp at hz)
                    | (go_at_call 63; refine (allWal a1 c1 L.ri ridOk _ ((H.out.kept (kept_of_below (by (repeat (first | exact Below.refl _ _ | (with_reducible exact Hid.out (by assumption)) | refine below_al ?_ _ | refine below_dr ?_ | refine below_tr ?_ (by assumption) | refine below_tr ?_ (Bel.out (by assumption)) | refine below_tr ?_ (Bel.out (ov_bel _ _)) | refine below_set ?_ (by simp; try omega)))))).ri) (by omega) (fun x W _ => ridge_any x.x1 x.y1 x.x2 x.y2 x.b x.t W)).mono ?_; rintro e w' ⟨rfl, hb⟩; obtain ⟨hc, hf⟩ := bcell hb; have hz := hb.size; try simp at hz)
                    | (go_at_call 65; refine (allSun a3 c3 L.su sunOk _ ((H.out.kept (kept_of_below (by (repeat (first | exact Below.refl _ _ | (with_reducible exact Hid.out (by assumption)) | refine below_al ?_ _ | refine below_dr ?_ | refine below_tr ?_ (by assumption) | refine below_tr ?_ (Bel.out (by assumption)) | refine below_tr ?_ (Bel.out (ov_bel _ _)) | refine below_set ?_ (by simp; try omega)))))).su) (by omega) (fun x W _ => sunValid_any x.e x.n x.u W)).mono ?_; rintro e w' ⟨rfl, hb⟩; obtain ⟨hc, hf⟩ := bcell hb; have hz := hb.size; try simp at hz)
                    | (go_at_call 59; refine (allClos (w.heap.size + 1) a2 c2 L.ca (closOk L) _ ((H.out.kept (kept_of_below (by (repeat (first | exact Below.refl _ _ | (with_reducible exact Hid.out (by assumption)) | refine below_al ?_ _ | refine below_dr ?_ | refine below_tr ?_ (by assumption) | refine below_tr ?_ (Bel.out (by assumption)) | refine below_tr ?_ (Bel.out (ov_bel _ _)) | refine below_set ?_ (by simp; try omega)))))).ca) (by omega) (fun x A4 c4 W hW hr hcc h7 => clouds_any ⟨a0, c0, a1, c1, a2, c2, a3, c3⟩ L A4 c4 (w.heap.size + 1) x W h3 ((kept_of_below hW) _ _ (by (try go_simp); (repeat (simp only [↓IntWalk.iteOmega]; (try go_simp))); (try omega))) hr h7)).mono ?_; rintro e w' ⟨rfl, hb⟩; obtain ⟨hc, hf⟩ := bcell hb; have hz := hb.size; try simp at hz))
                  go_ret
                  exact ⟨by rw [HF.out, HBad.out]; simp_all, by (repeat (first | exact Below.refl _ _ | (with_reducible exact Hid.out (by assumption)) | refine below_al ?_ _ | refine below_dr ?_ | refine below_tr ?_ (by assumption) | refine below_tr ?_ (Bel.out (by assumption)) | refine below_tr ?_ (Bel.out (ov_bel _ _)) | refine below_set ?_ (by simp; try omega)))⟩
                · go_enter Try.func44, Try.ntmps44
                  go_wp2_with (go_at_call 59; refine (allFew a2 c2 L.ca fewC _ ((H.out.kept (kept_of_below (by (repeat (first | exact Below.refl _ _ | (with_reducible exact Hid.out (by assumption)) | refine below_al ?_ _ | refine below_dr ?_ | refine below_tr ?_ (by assumption) | refine below_tr ?_ (Bel.out (by assumption)) | refine below_tr ?_ (Bel.out (ov_bel _ _)) | refine below_set ?_ (by simp; try omega)))))).ca) (by omega) (fun x A2 c2 W hW hr hc h7 => few_any A2 x.length c2 W h7)).mono ?_; rintro e w1 ⟨rfl, hb⟩; rw [D4.out]; obtain ⟨hc, hf⟩ := bcell hb; have hz := hb.size; try simp at hz)
                  go_wp2_with (first
                    | (go_at_call 60; refine (allSta a0 c0 L.st staOk _ ((H.out.kept (kept_of_below (by (repeat (first | exact Below.refl _ _ | (with_reducible exact Hid.out (by assumption)) | refine below_al ?_ _ | refine below_dr ?_ | refine below_tr ?_ (by assumption) | refine below_tr ?_ (Bel.out (by assumption)) | refine below_tr ?_ (Bel.out (ov_bel _ _)) | refine below_set ?_ (by simp; try omega)))))).st) (by omega) (fun x W _ => staValid_any x.x x.y x.z x.m W)).mono ?_; rintro e w' ⟨rfl, hb⟩; obtain ⟨hc, hf⟩ := bcell hb; have hz := hb.size; try simp at hz)
                    | (go_at_call 62; refine (apart_any ⟨a0, c0, a1, c1, a2, c2, a3, c3⟩ L _ (H.out.kept (kept_of_below (by (repeat (first | exact Below.refl _ _ | (with_reducible exact Hid.out (by assumption)) | refine below_al ?_ _ | refine below_dr ?_ | refine below_tr ?_ (by assumption) | refine below_tr ?_ (Bel.out (by assumption)) | refine below_tr ?_ (Bel.out (ov_bel _ _)) | refine below_set ?_ (by simp; try omega))))))).mono ?_; rintro e w' ⟨rfl, hb⟩; obtain ⟨hc, hf⟩ := bcell hb; have hz := hb.size; try simp at hz)
                    | (go_at_call 63; refine (allWal a1 c1 L.ri ridOk _ ((H.out.kept (kept_of_below (by (repeat (first | exact Below.refl _ _ | (with_reducible exact Hid.out (by assumption)) | refine below_al ?_ _ | refine below_dr ?_ | refine below_tr ?_ (by assumption) | refine below_tr ?_ (Bel.out (by assumption)) | refine below_tr ?_ (Bel.out (ov_bel _ _)) | refine below_set ?_ (by simp; try omega)))))).ri) (by omega) (fun x W _ => ridge_any x.x1 x.y1 x.x2 x.y2 x.b x.t W)).mono ?_; rintro e w' ⟨rfl, hb⟩; obtain ⟨hc, hf⟩ := bcell hb; have hz := hb.size; try simp at hz)
                    | (go_at_call 65; refine (allSun a3 c3 L.su sunOk _ ((H.out.kept (kept_of_below (by (repeat (first | exact Below.refl _ _ | (with_reducible exact Hid.out (by assumption)) | refine below_al ?_ _ | refine below_dr ?_ | refine below_tr ?_ (by assumption) | refine below_tr ?_ (Bel.out (by assumption)) | refine below_tr ?_ (Bel.out (ov_bel _ _)) | refine below_set ?_ (by simp; try omega)))))).su) (by omega) (fun x W _ => sunValid_any x.e x.n x.u W)).mono ?_; rintro e w' ⟨rfl, hb⟩; obtain ⟨hc, hf⟩ := bcell hb; have hz := hb.size; try simp at hz)
                    | (go_at_call 59; refine (allClos (w.heap.size + 1) a2 c2 L.ca (closOk L) _ ((H.out.kept (kept_of_below (by (repeat (first | exact Below.refl _ _ | (with_reducible exact Hid.out (by assumption)) | refine below_al ?_ _ | refine below_dr ?_ | refine below_tr ?_ (by assumption) | refine below_tr ?_ (Bel.out (by assumption)) | refine below_tr ?_ (Bel.out (ov_bel _ _)) | refine below_set ?_ (by simp; try omega)))))).ca) (by omega) (fun x A4 c4 W hW hr hcc h7 => clouds_any ⟨a0, c0, a1, c1, a2, c2, a3, c3⟩ L A4 c4 (w.heap.size + 1) x W h3 ((kept_of_below hW) _ _ (by (try go_simp); (repeat (simp only [↓IntWalk.iteOmega]; (try go_simp))); (try omega))) hr h7)).mono ?_; rintro e w' ⟨rfl, hb⟩; obtain ⟨hc, hf⟩ := bcell hb; have hz := hb.size; try simp at hz))
                  go_ret
                  exact ⟨by rw [HF.out, HBad.out]; simp_all, by (repeat (first | exact Below.refl _ _ | (with_reducible exact Hid.out (by assumption)) | refine below_al ?_ _ | refine below_dr ?_ | refine below_tr ?_ (by assumption) | refine below_tr ?_ (Bel.out (by assumption)) | refine below_tr ?_ (Bel.out (ov_bel _ _)) | refine below_set ?_ (by simp; try omega)))⟩
end Go.Proofs.Ytdfohielnfdmkaa

