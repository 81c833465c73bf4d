/- Part KQ of the proof: C1 · C2 · X6 · C3. -/
import Derived.Test.YtdfohielnfdmkaaKK
import Derived.Test.YtdfohielnfdmkaaKP
import Derived.Test.YtdfohielnfdmkaaKM
import Derived.Test.YtdfohielnfdmkaaKO
import Derived.Test.YtdfohielnfdmkaaKN
set_option linter.unusedVariables false
set_option linter.unusedSimpArgs false
/- Plain laws: the table of the earliest hours, reckoned hour by hour. -/
namespace Go.Proofs.Ytdfohielnfdmkaa

/-- One hour: who has it flashes. -/
def stepT (n E : Nat) (g : Nat → Nat → Nat → Bool) (h : Nat) (t : List Nat) : List Nat :=
  (List.range n).map fun b => if t.getD b 0 = E + 1 ∧ ((List.range n).any fun a => decide (t.getD a 0 ≤ h) && g a b h) = true then h + 1 else t.getD b 0
/-- The table before the hour start + d. -/
def calcT (n E : Nat) (g : Nat → Nat → Nat → Bool) (src start : Nat) : Nat → List Nat
  | 0 => (List.range n).map fun x => if x = src then start else E + 1
  | d + 1 => stepT n E g (start + d) (calcT n E g src start d)
theorem getD_map_range (f : Nat → Nat) (n b : Nat) (hb : b < n) : ((List.range n).map f).getD b 0 = f b := by
  rw [List.getD_eq_getElem?_getD, List.getElem?_map, List.getElem?_range hb]; rfl
theorem calcT_inv {n E src start : Nat} {g : Nat → Nat → Nat → Bool} (hs : start ≤ E) (hsrc : src < n) : ∀ d, start + d ≤ E → RInv n E g src start (start + d) (fun b => (calcT n E g src start d).getD b 0)
  | 0, _ => by
    have r := RInv.begin (n := n) (src := src) (g := g) hs
    have e : ∀ b, b < n → (calcT n E g src start 0).getD b 0 = (if b = src then start else E + 1) := fun b hb => getD_map_range _ _ _ hb
    refine ⟨by rw [e src hsrc]; exact r.init, fun b hb hE => ?_, fun b hb => ?_, fun a b h ha hb h1 h2 h3 => ?_⟩
    · simp only [e b hb] at hE ⊢
      rcases r.supp b hb hE with q | ⟨a, k, q1, q2, q3, q4, q5⟩
      · exact .inl q
      · exact .inr ⟨a, k, q1, by simp only [e a q1]; exact q2, q3, q4, q5⟩
    · simp only [e b hb]; exact r.vals b hb
    · simp only [e a ha, e b hb] at h1 ⊢; exact r.closed a b h ha hb h1 h2 h3
  | d + 1, hd => by
    have r := calcT_inv (g := g) hs hsrc d (by omega)
    have e : ∀ b, b < n → (calcT n E g src start (d + 1)).getD b 0 = (if (calcT n E g src start d).getD b 0 = E + 1 ∧ ((List.range n).any fun a => decide ((calcT n E g src start d).getD a 0 ≤ start + d) && g a b (start + d)) = true then start + d + 1 else (calcT n E g src start d).getD b 0) := fun b hb => getD_map_range _ _ _ hb
    generalize calcT n E g src start (d + 1) = t' at *
    generalize calcT n E g src start d = t at *
    have hany : ∀ b, ((List.range n).any fun a => decide (t.getD a 0 ≤ start + d) && g a b (start + d)) = true ↔ ∃ a, a < n ∧ t.getD a 0 ≤ start + d ∧ g a b (start + d) = true := by
      intro b
      rw [List.any_eq_true]
      constructor
      · rintro ⟨a, h1, h2⟩
        simp only [Bool.and_eq_true, decide_eq_true_eq] at h2
        exact ⟨a, List.mem_range.1 h1, h2.1, h2.2⟩
      · rintro ⟨a, h1, h2, h3⟩
        exact ⟨a, List.mem_range.2 h1, by rw [decide_eq_true h2, h3]; rfl⟩
    simp only [hany] at e
    have hle : ∀ x k, x < n → k ≤ start + d → (t'.getD x 0 ≤ k ↔ t.getD x 0 ≤ k) := by
      intro x k hx hk
      rw [e x hx]
      split
      · rename_i h; omega
      · exact Iff.rfl
    have hdn : ∀ x, x < n → t'.getD x 0 ≤ t.getD x 0 := by
      intro x hx
      rw [e x hx]
      split
      · rename_i h; omega
      · exact Nat.le_refl _
    refine ⟨?_, fun b hb hE => ?_, fun b hb => ?_, fun a b k ha hb h1 h2 h3 => ?_⟩
    · have := r.init
      rw [e src hsrc]
      split
      · rename_i h; omega
      · exact this
    · by_cases hc : t.getD b 0 = E + 1 ∧ ∃ a, a < n ∧ t.getD a 0 ≤ start + d ∧ g a b (start + d) = true
      · obtain ⟨_, a, q1, q2, q3⟩ := id hc
        exact .inr ⟨a, start + d, q1, (hle a _ q1 (Nat.le_refl _)).2 q2, by omega, q3, by show t'.getD b 0 = _; rw [e b hb, if_pos hc]⟩
      · have eb : t'.getD b 0 = t.getD b 0 := by rw [e b hb, if_neg hc]
        simp only [eb] at hE ⊢
        rcases r.supp b hb hE with q | ⟨a, k, q1, q2, q3, q4, q5⟩
        · exact .inl q
        · exact .inr ⟨a, k, q1, Nat.le_trans (hdn a q1) q2, q3, q4, q5⟩
    · have := r.vals b hb
      show t'.getD b 0 = _ ∨ t'.getD b 0 ≤ _
      rw [e b hb]
      split
      · exact .inr (by omega)
      · rcases this with q | q
        · exact .inl q
        · exact .inr (by omega)
    · by_cases ek : k = start + d
      · subst ek
        have h1' := (hle a _ ha (Nat.le_refl _)).1 h1
        show t'.getD b 0 ≤ _
        rw [e b hb]
        by_cases hb' : t.getD b 0 = E + 1
        · rw [if_pos ⟨hb', a, ha, h1', h3⟩]; exact Nat.le_refl _
        · rw [if_neg (fun h => hb' h.1)]
          rcases r.vals b hb with q | q
          · exact absurd q hb'
          · omega
      · exact Nat.le_trans (hdn b hb) (r.closed a b k ha hb ((hle a k ha (by omega)).1 h1) (by omega) h3)
theorem tab_calc {n E src start b : Nat} (g : Nat → Nat → Nat → Bool) (hs : start ≤ E) (hsrc : src < n) (hb : b < n) : tab n E g src start b = (calcT n E g src start (E - start)).getD b 0 := by
  have r := calcT_inv (g := g) hs hsrc (E - start) (by omega)
  rw [show start + (E - start) = E by omega] at r
  exact (tab_eq hs r.table hb).symm
theorem sureTo_congr {f f' : Nat → Nat} : ∀ {m : Nat}, (∀ k, k < m → f k = f' k) → sureTo f m = sureTo f' m
  | 0, _ => rfl
  | m + 1, h => by simp only [sureTo]; rw [sureTo_congr (fun k hk => h k (by omega)), h m (by omega)]
end Go.Proofs.Ytdfohielnfdmkaa

/- Plain laws: the chapter's examples; what the program and the reference answer. -/
set_option linter.unusedVariables false
namespace Go.Proofs.Ytdfohielnfdmkaa
open Go.RowKit

theorem eT_calc {L : Lnd} {out : Int} {src start k b : Nat} (hs : start ≤ L.su.length) (hsrc : src < L.st.length) (hb : b < L.st.length) :
    eT L out src start k b = (calcT L.st.length L.su.length (gN L k out) src start (L.su.length - start)).getD b 0 := tab_calc _ hs hsrc hb
theorem sHr_calc {L : Lnd} {out : Int} {f t s : Nat} (hs : s ≤ L.su.length) (hf : f < L.st.length) (ht : t < L.st.length) :
    sHr L out f t s = (sureTo (fun k => (calcT L.st.length L.su.length (gN L k out) f s (L.su.length - s)).getD t 0) L.ca.length).1 := by
  unfold sHr
  rw [sureTo_congr (fun k _ => eT_calc hs hf ht)]

theorem three_earl : earlR (three 4) 0 0 1 = ([0, 2, 3], 0) := by
  unfold earlR
  rw [if_neg (by decide +kernel)]
  have e : ∀ b, b < 3 → eT (three 4) (-1) (Int.toNat 0) (Int.toNat 0) (Int.toNat 1) b = [0, 2, 3].getD b 0 := fun b hb => by
    rw [eT_calc (by decide) (by decide) (by simpa [three] using hb), show calcT (three 4).st.length (three 4).su.length (gN (three 4) (Int.toNat 1) (-1)) (Int.toNat 0) (Int.toNat 0) ((three 4).su.length - Int.toNat 0) = [0, 2, 3] by decide +kernel]
  rw [show (three 4).st.length = 3 from rfl, show List.range 3 = [0, 1, 2] from rfl]
  simp only [List.map_cons, List.map_nil]
  rw [e 0 (by omega), e 1 (by omega), e 2 (by omega)]
  decide
theorem three_sure : sureR (three 4) 0 2 0 = (3, 1, 0) := by
  unfold sureR
  rw [if_neg (by decide +kernel), sureTo_congr (fun k _ => eT_calc (by decide) (by decide) (by decide))]
  decide +kernel
theorem three_latest : latestR (three 4) 0 2 3 = (1, 0) := by
  unfold latestR
  rw [if_neg (by decide +kernel), find_first (i := 2) (by decide) ?_ ?_]
  · rfl
  · rw [sHr_calc (by decide) (by decide) (by decide)]; decide +kernel
  · intro j hj
    have : j = 0 ∨ j = 1 := by omega
    rcases this with rfl | rfl <;> (rw [sHr_calc (by decide) (by decide) (by decide)]; decide +kernel)
theorem three_route : routeR (three 4) 0 2 0 = ([⟨0, 1, 1⟩, ⟨1, 2, 2⟩], 3, 0) := by decide +kernel
theorem three_vital : vitalR (three 3) 0 2 0 = ([1], 0) := by
  unfold vitalR
  rw [if_neg (by decide +kernel), if_neg (by rw [sHr_calc (by decide) (by decide) (by decide)]; decide +kernel)]
  have e : fiTo (vitB (three 3) (Int.toNat 0) (Int.toNat 2) (Int.toNat 0)) (three 3).st.length = fiTo (fun i => !((i : Int) == (0 : Nat)) && !((i : Int) == (2 : Nat)) && decide (((three 3).su.length : Int) < (sureTo (fun k => (calcT (three 3).st.length (three 3).su.length (gN (three 3) k i) 0 0 ((three 3).su.length - 0)).getD 2 0) (three 3).ca.length).1)) (three 3).st.length := by
    unfold fiTo
    congr 1
    refine List.filter_congr fun i _ => ?_
    unfold vitB
    rw [sHr_calc (by decide) (by decide) (by decide)]
    rfl
  rw [e]
  decide +kernel
end Go.Proofs.Ytdfohielnfdmkaa

/- Walks: helpers of the laws: awake: the chapter's examples. -/
set_option linter.unusedVariables false
set_option linter.unusedSimpArgs false
namespace Go.Proofs.Ytdfohielnfdmkaa
open Go.RowKit
attribute [local go_sem low] cell_alloc_ite frozen_alloc_ite ov_cell ov_frozen

theorem rowHp2 {w : World} {b : Nat} {x y : Hp} (h0 : w.cell? ⟨b, 0, none⟩ = some (.int .i64 x.a)) (h1 : w.cell? ⟨b, 1, none⟩ = some (.int .i64 x.b)) (h2 : w.cell? ⟨b, 2, none⟩ = some (.int .i64 x.h)) (h3 : w.cell? ⟨b, 3, none⟩ = some (.int .i64 y.a)) (h4 : w.cell? ⟨b, 4, none⟩ = some (.int .i64 y.b)) (h5 : w.cell? ⟨b, 5, none⟩ = some (.int .i64 y.h)) : RowAt w (some ⟨b, 0, none⟩) 3 encHp [x, y] :=
  row_cells (fun _ => rfl) (cells6 h0 h1 h2 h3 h4 h5)

set_option maxRecDepth 100000 in
set_option maxHeartbeats 8000000 in
theorem awake_any (w : World) : Calls Try.prog 8 #[] w fun e w' => e = .returned (.bool true) ∧ Below w.heap.size w w' := by
  have HT := Lib.hid (fun (n : Nat) (hn : n = 3 ∨ n = 4) W => lthree_any n hn W)
  go_enter Try.func8, Try.ntmps8
  go_wp2_with fail
  refine (HT.out 4 (.inr rfl) _).mono ?_
  rintro e w1 ⟨V1, rfl, hr1, hb1⟩
  go_wp2_with fail
  refine (earliestTop_any V1 (three 4) 0 0 1 w1 hr1).mono ?_
  rw [three_earl]
  rintro e w2 ⟨A2, c2, rfl, hrow2, hc2, hb2⟩
  have hB2 := below_tr hb1 hb2
  clear hr1 hb1 hb2
  replace hB2 := Lib.hid hB2
  replace hrow2 := Lib.hid hrow2
  clear hc2
  go_wp2_with fail
  refine (HT.out 4 (.inr rfl) _).mono ?_
  rintro e w3 ⟨V3, rfl, hr3, hb3⟩
  go_wp2_with fail
  refine (sureTop_any V3 (three 4) 0 2 0 w3 hr3).mono ?_
  unfold SureTop
  rw [three_sure]
  rintro e w4 ⟨rfl, hb4⟩
  have hB4 := below_tr hb3 hb4
  clear hr3 hb3 hb4
  replace hB4 := Lib.hid hB4
  go_wp2_with fail
  refine (HT.out 4 (.inr rfl) _).mono ?_
  rintro e w5 ⟨V5, rfl, hr5, hb5⟩
  go_wp2_with fail
  refine (latestTop_any V5 (three 4) 0 2 3 w5 hr5).mono ?_
  unfold PairTop
  rw [three_latest]
  rintro e w6 ⟨rfl, hb6⟩
  have hB6 := below_tr hb5 hb6
  clear hr5 hb5 hb6
  replace hB6 := Lib.hid hB6
  go_wp2_with fail
  refine (HT.out 4 (.inr rfl) _).mono ?_
  rintro e w7 ⟨V7, rfl, hr7, hb7⟩
  go_wp2_with fail
  refine (routeTop_any V7 (three 4) 0 2 0 w7 hr7).mono ?_
  rw [three_route]
  rintro e w8 ⟨A8, c8, rfl, hrow8, hc8, _, hb8⟩
  have hB8 := below_tr hb7 hb8
  clear hr7 hb7 hb8 hc8
  replace hB8 := Lib.hid hB8
  replace hrow8 := Lib.hid hrow8
  go_wp2_with fail
  refine (HT.out 3 (.inl rfl) _).mono ?_
  rintro e w9 ⟨V9, rfl, hr9, hb9⟩
  go_wp2_with fail
  refine (vitalTop_any V9 (three 3) 0 2 0 w9 hr9).mono ?_
  rw [three_vital]
  rintro e w10 ⟨A10, c10, rfl, hrow10, hc10, hb10⟩
  have hB10 := below_tr hb9 hb10
  clear hr9 hb9 hb10 hc10
  replace hB10 := Lib.hid hB10
  replace hrow10 := Lib.hid hrow10
  have hI1 := Lib.hid (fun (W : World) (b : Nat) (hW : Below w10.heap.size w10 W) h0 h1 h2 => lints_any A2 (some ⟨b, 0, none⟩) c2 3 [0, 2, 3] [0, 2, 3] W (hrow2.out.kept (kept_of_below (below_tr (below_tr (below_tr (below_tr hB4.out hB6.out) hB8.out) hB10.out) hW))) (rowInts3 h0 h1 h2) (by simp) (by simp))
  have hI2 := Lib.hid (fun (W : World) (b : Nat) (hW : Below w10.heap.size w10 W) h0 h1 h2 h3 h4 h5 => lhops_any A8 (some ⟨b, 0, none⟩) c8 2 [⟨0, 1, 1⟩, ⟨1, 2, 2⟩] [⟨0, 1, 1⟩, ⟨1, 2, 2⟩] W (hrow8.out.kept (kept_of_below (below_tr hB10.out hW))) (rowHp2 h0 h1 h2 h3 h4 h5) (by simp) (by simp))
  have hI3 := Lib.hid (fun (W : World) (b : Nat) (hW : Below w10.heap.size w10 W) h0 => lints_any A10 (some ⟨b, 0, none⟩) c10 1 [1] [1] W (hrow10.out.kept (kept_of_below hW)) (rowInts1 h0) (by simp) (by simp))
  have hBA : Hid (Below w.heap.size w w10) := Lib.hid (below_tr (below_tr (below_tr (below_tr hB2.out hB4.out) hB6.out) hB8.out) hB10.out)
  clear hB2 hB4 hB6 hB8 hB10 hrow2 hrow8 hrow10 HT
  go_wp2_with fail
  refine (hI1.out _ _ (by (repeat (first | exact Below.refl _ _ | (with_reducible exact Hid.out (by assumption)) | refine below_al ?_ _ | refine below_dr ?_ | refine below_tr ?_ (by assumption) | refine below_tr ?_ (Bel.out (by assumption)) | refine below_tr ?_ (Bel.out (ov_bel _ _)) | refine below_set ?_ (by simp; try omega)))) (by (try go_simp); (repeat (simp only [↓IntWalk.iteOmega]; (try go_simp))); (try omega)) (by (try go_simp); (repeat (simp only [↓IntWalk.iteOmega]; (try go_simp))); (try omega)) (by (try go_simp); (repeat (simp only [↓IntWalk.iteOmega]; (try go_simp))); (try omega))).mono ?_
  rintro e w11 ⟨rfl, hb⟩
  have hB11 : Below w10.heap.size w10 w11 := by (repeat (first | exact Below.refl _ _ | (with_reducible exact Hid.out (by assumption)) | refine below_al ?_ _ | refine below_dr ?_ | refine below_tr ?_ (by assumption) | refine below_tr ?_ (Bel.out (by assumption)) | refine below_tr ?_ (Bel.out (ov_bel _ _)) | refine below_set ?_ (by simp; try omega)))
  have hz := hB11.size
  clear hb
  replace hB11 := Lib.hid hB11
  go_wp2_with fail
  refine (hI2.out _ _ (by (repeat (first | exact Below.refl _ _ | (with_reducible exact Hid.out (by assumption)) | refine below_al ?_ _ | refine below_dr ?_ | refine below_tr ?_ (by assumption) | refine below_tr ?_ (Bel.out (by assumption)) | refine below_tr ?_ (Bel.out (ov_bel _ _)) | refine below_set ?_ (by simp; try omega)))) (by (try go_simp); (repeat (simp only [↓IntWalk.iteOmega]; (try go_simp))); (try omega)) (by (try go_simp); (repeat (simp only [↓IntWalk.iteOmega]; (try go_simp))); (try omega)) (by (try go_simp); (repeat (simp only [↓IntWalk.iteOmega]; (try go_simp))); (try omega)) (by (try go_simp); (repeat (simp only [↓IntWalk.iteOmega]; (try go_simp))); (try omega)) (by (try go_simp); (repeat (simp only [↓IntWalk.iteOmega]; (try go_simp))); (try omega)) (by (try go_simp); (repeat (simp only [↓IntWalk.iteOmega]; (try go_simp))); (try omega))).mono ?_
  rintro e w12 ⟨rfl, hb⟩
  have hB12 : Below w10.heap.size w10 w12 := by (repeat (first | exact Below.refl _ _ | (with_reducible exact Hid.out (by assumption)) | refine below_al ?_ _ | refine below_dr ?_ | refine below_tr ?_ (by assumption) | refine below_tr ?_ (Bel.out (by assumption)) | refine below_tr ?_ (Bel.out (ov_bel _ _)) | refine below_set ?_ (by simp; try omega)))
  have hz2 := hB12.size
  clear hb
  replace hB12 := Lib.hid hB12
  go_wp2_with fail
  refine (hI3.out _ _ (by (repeat (first | exact Below.refl _ _ | (with_reducible exact Hid.out (by assumption)) | refine below_al ?_ _ | refine below_dr ?_ | refine below_tr ?_ (by assumption) | refine below_tr ?_ (Bel.out (by assumption)) | refine below_tr ?_ (Bel.out (ov_bel _ _)) | refine below_set ?_ (by simp; try omega)))) (by (try go_simp); (repeat (simp only [↓IntWalk.iteOmega]; (try go_simp))); (try omega))).mono ?_
  rintro e w13 ⟨rfl, hb⟩
  have hB13 : Below w10.heap.size w10 w13 := by (repeat (first | exact Below.refl _ _ | (with_reducible exact Hid.out (by assumption)) | refine below_al ?_ _ | refine below_dr ?_ | refine below_tr ?_ (by assumption) | refine below_tr ?_ (Bel.out (by assumption)) | refine below_tr ?_ (Bel.out (ov_bel _ _)) | refine below_set ?_ (by simp; try omega)))
  clear hb
  replace hB13 := Lib.hid hB13
  go_wp2
  go_ret
  exact ⟨rfl, below_tr hBA.out hB13.out⟩
end Go.Proofs.Ytdfohielnfdmkaa

/- Plain laws: what the program answers is what the reference answers: Latest, Vital. -/
set_option linter.unusedVariables false
namespace Go.Proofs.Ytdfohielnfdmkaa
open Go.RowKit

theorem rlatTo_spec (q : Nat → Int) (by_ : Int) : ∀ m, (rlatTo q by_ m = -1 ∧ ∀ s, s < m → ¬ (0 ≤ q s ∧ q s ≤ by_)) ∨ ∃ s, s < m ∧ rlatTo q by_ m = s ∧ (0 ≤ q s ∧ q s ≤ by_) ∧ ∀ s', s < s' → s' < m → ¬ (0 ≤ q s' ∧ q s' ≤ by_)
  | 0 => .inl ⟨rfl, fun s h => by omega⟩
  | m + 1 => by
    by_cases h : 0 ≤ q m ∧ q m ≤ by_
    · exact .inr ⟨m, by omega, by simp only [rlatTo]; rw [if_pos h], h, fun s' h1 h2 => by omega⟩
    · have e : rlatTo q by_ (m + 1) = rlatTo q by_ m := by simp only [rlatTo]; rw [if_neg h]
      rcases rlatTo_spec q by_ m with ⟨h1, h2⟩ | ⟨s, h1, h2, h3, h4⟩
      · refine .inl ⟨by rw [e, h1], fun s hs => ?_⟩
        by_cases es : s = m
        · subst es; exact h
        · exact h2 s (by omega)
      · refine .inr ⟨s, by omega, by rw [e, h2], h3, fun s' k1 k2 => ?_⟩
        by_cases es : s' = m
        · subst es; exact h
        · exact h4 s' k1 (by omega)
/-- The sure hour is not before the start. -/
theorem sHr_ge {L : Lnd} {out : Int} {f t s : Nat} (hs : s ≤ L.su.length) (ht : t < L.st.length) (hc : 0 < L.ca.length) : (s : Int) ≤ sHr L out f t s := by
  obtain ⟨h1, h2, _⟩ := sureTo_at (fun k => eT L out f s k t) L.ca.length hc
  unfold sHr
  rw [h2]
  have hk := eT_is (L := L) (out := out) (src := f) (k := (sureTo (fun k => eT L out f s k t) L.ca.length).2) hs
  by_cases hE : eT L out f s (sureTo (fun k => eT L out f s k t) L.ca.length).2 t ≤ L.su.length
  · have := hk.ge t ht hE
    omega
  · omega
theorem sHr_stuck {L : Lnd} {out : Int} {f t s : Nat} (hc : 0 < L.ca.length) : (L.su.length : Int) < sHr L out f t s ↔ 0 < (rstuckR L out f t s).length := by
  unfold rstuckR fiTo sHr
  rw [List.length_map, List.length_pos_iff_exists_mem]
  constructor
  · intro h
    obtain ⟨h1, h2, _⟩ := sureTo_at (fun k => eT L out f s k t) L.ca.length hc
    refine ⟨_, List.mem_filter.2 ⟨List.mem_range.2 h1, ?_⟩⟩
    rw [h2] at h
    simpa using h
  · rintro ⟨k, hk⟩
    obtain ⟨h1, h2⟩ := List.mem_filter.1 hk
    have := sureTo_ge (fun k => eT L out f s k t) L.ca.length k (List.mem_range.1 h1)
    simp only [decide_eq_true_eq] at h2
    omega
theorem rsure_ok {L : Lnd} {f t s : Nat} {by_ : Int} (hs : s ≤ L.su.length) (ht : t < L.st.length) (hc : 0 < L.ca.length) (hb : by_ ≤ L.su.length) : (0 ≤ (rsureR L f t s).1 ∧ (rsureR L f t s).1 ≤ by_) ↔ sHr L (-1) f t s ≤ by_ := by
  have h0 := sHr_ge (out := -1) (f := f) hs ht hc
  have e : (rsureR L f t s).1 = if (L.su.length : Int) < sHr L (-1) f t s then -1 else sHr L (-1) f t s := by
    unfold rsureR sHr
    split <;> rfl
  rw [e]
  split <;> omega
/-- The latest start, in the program's words and in the reference's. -/
theorem latest_eq {L : Lnd} {f t b : Int} (h : openE L [f, t] [b] 0 = 0) :
    (rlatR L f.toNat t.toNat b < 0 → latestR L f t b = (0, 10)) ∧ (¬ rlatR L f.toNat t.toNat b < 0 → latestR L f t b = (rlatR L f.toNat t.toNat b, 0)) := by
  obtain ⟨hf, hst, hti, _, hc⟩ := openE_zero h
  obtain ⟨t0, t1⟩ := hst t (by simp)
  obtain ⟨b0, b1⟩ := hti b (by simp)
  obtain ⟨t', rfl⟩ := Int.eq_ofNat_of_zero_le t0
  obtain ⟨b', rfl⟩ := Int.eq_ofNat_of_zero_le b0
  have hc' : 0 < L.ca.length := by omega
  have hq : ∀ s, s ≤ L.su.length → ((0 ≤ (rsureR L f.toNat t' s).1 ∧ (rsureR L f.toNat t' s).1 ≤ (b' : Int)) ↔ sHr L (-1) f.toNat t' s ≤ (b' : Int)) := fun s hs => rsure_ok hs (by omega) hc' b1
  have hge : ∀ s, s ≤ L.su.length → (s : Int) ≤ sHr L (-1) f.toNat t' s := fun s hs => sHr_ge hs (by omega) hc'
  have hL : latestR L f t' b' = match (List.range (b' + 1)).find? fun i => decide (sHr L (-1) f.toNat t' (b' - i) ≤ (b' : Int)) with
      | some i => (((b' : Int) - i), 0)
      | none => (0, 10) := by unfold latestR; rw [if_neg (by simpa using h)]; rfl
  have hR : rlatR L f.toNat (Int.toNat t') b' = rlatTo (fun s => (rsureR L f.toNat t' s).1) b' (L.su.length + 1) := rfl
  rw [hL, hR]
  rcases rlatTo_spec (fun s => (rsureR L f.toNat t' s).1) b' (L.su.length + 1) with ⟨h1, h2⟩ | ⟨s, h1, h2, h3, h4⟩
  · rw [h1]
    refine ⟨fun _ => ?_, fun h => absurd (by omega) h⟩
    rw [find_no fun j hj => ?_]
    refine decide_eq_false fun hh => ?_
    exact h2 (b' - j) (by omega) ((hq _ (by omega)).2 hh)
  · rw [h2]
    refine ⟨fun h => by omega, fun _ => ?_⟩
    have hs := (hq s (by omega)).1 h3
    have := hge s (by omega)
    rw [find_first (i := b' - s) (by omega) ?_ ?_]
    · simp only [Prod.mk.injEq, and_true]; omega
    · rw [show b' - (b' - s) = s by omega]; exact decide_eq_true hs
    · intro j hj
      refine decide_eq_false fun hh => ?_
      exact h4 (b' - j) (by omega) (by omega) ((hq _ (by omega)).2 hh)
theorem latest_err {L : Lnd} {f t b : Int} (h : openE L [f, t] [b] 0 ≠ 0) : latestR L f t b = (0, openE L [f, t] [b] 0) := by unfold latestR; rw [if_pos h]
theorem vital_err {L : Lnd} {f t b : Int} (h : openE L [f, t] [b] 0 ≠ 0) : vitalR L f t b = ([], openE L [f, t] [b] 0) := by unfold vitalR; rw [if_pos h]
/-- Whether the law takes a station for vital. -/
noncomputable def lvB (L : Lnd) (f t : Int) (s i : Nat) : Bool := ((i : Int) != f) && ((i : Int) != t) && decide (0 < (rstuckR L i f.toNat t.toNat s).length)
theorem vital_eq {L : Lnd} {f t b : Int} (h : openE L [f, t] [b] 0 = 0) :
    (0 < (rstuckR L (-1) f.toNat t.toNat b.toNat).length → vitalR L f t b = ([], 10)) ∧ (¬ 0 < (rstuckR L (-1) f.toNat t.toNat b.toNat).length → vitalR L f t b = (fiTo (lvB L f t b.toNat) L.st.length, 0)) := by
  obtain ⟨hf, hst, hti, _, hc⟩ := openE_zero h
  obtain ⟨f0, f1⟩ := hst f (by simp)
  obtain ⟨t0, t1⟩ := hst t (by simp)
  obtain ⟨f', rfl⟩ := Int.eq_ofNat_of_zero_le f0
  obtain ⟨t', rfl⟩ := Int.eq_ofNat_of_zero_le t0
  have hc' : 0 < L.ca.length := by omega
  rw [← sHr_stuck hc']
  refine ⟨fun hh => ?_, fun hh => ?_⟩
  · unfold vitalR; rw [if_neg (by simpa using h), if_pos hh]
  · unfold vitalR
    rw [if_neg (by simpa using h), if_neg hh]
    congr 1
    unfold fiTo
    congr 1
    refine List.filter_congr fun i _ => ?_
    unfold vitB lvB
    have e : decide ((L.su.length : Int) < sHr L i f' t' b.toNat) = decide (0 < (rstuckR L i f' t' b.toNat).length) := decide_eq_decide.2 (sHr_stuck hc')
    simp only [Int.toNat_natCast, e, bne]
end Go.Proofs.Ytdfohielnfdmkaa

