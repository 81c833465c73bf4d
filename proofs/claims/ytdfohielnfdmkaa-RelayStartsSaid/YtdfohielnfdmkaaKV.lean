/- Part KV of the proof: C4. -/
import Derived.Test.YtdfohielnfdmkaaKQ
set_option linter.unusedVariables false
set_option linter.unusedSimpArgs false
/- Plain laws: what the program answers is what the reference answers: Earliest, Sure, Stuck. -/
set_option linter.unusedVariables false
namespace Go.Proofs.Ytdfohielnfdmkaa
open Go.RowKit

theorem openE_dup (L : Lnd) (f k : Int) (ys : List Int) : openE L [f, f] ys k = openE L [f] ys k := by
  unfold openE
  simp only [List.all_cons, List.all_nil, Bool.and_true, Bool.and_self]
theorem hourOr_hv (E x : Nat) : hourOr E x = hv E x := by unfold hourOr hv; split <;> split <;> omega
theorem earl_err {L : Lnd} {f s k : Int} (h : openE L [f] [s] k ≠ 0) : earlR L f s k = ([], openE L [f] [s] k) := by unfold earlR; rw [if_pos h]
theorem earl_eq {L : Lnd} {f s k : Int} (h : openE L [f] [s] k = 0) : earlR L f s k = ((List.range L.st.length).map fun b => hv L.su.length (eT L (-1) f.toNat s.toNat k.toNat b), 0) := by
  unfold earlR
  rw [if_neg (by simpa using h)]
  simp only [hourOr_hv]
theorem sure_err {L : Lnd} {f t s : Int} (h : openE L [f, t] [s] 0 ≠ 0) : sureR L f t s = (0, 0, openE L [f, t] [s] 0) := by unfold sureR; rw [if_pos h]
theorem sure_eq {L : Lnd} {f t s : Int} (h : openE L [f, t] [s] 0 = 0) :
    ((rsureR L f.toNat t.toNat s.toNat).1 < 0 → sureR L f t s = (0, 0, 10)) ∧ (¬ (rsureR L f.toNat t.toNat s.toNat).1 < 0 → sureR L f t s = ((rsureR L f.toNat t.toNat s.toNat).1, (rsureR L f.toNat t.toNat s.toNat).2, 0)) := by
  obtain ⟨hf, hst, hti, _, hc⟩ := openE_zero h
  have hc' : 0 < L.ca.length := by omega
  obtain ⟨h1, h2, _⟩ := sureTo_at (fun k => eT L (-1) f.toNat s.toNat k t.toNat) L.ca.length hc'
  have e1 : sureR L f t s = if (L.su.length : Int) < (sureTo (fun k => eT L (-1) f.toNat s.toNat k t.toNat) L.ca.length).1 then (0, 0, 10) else ((sureTo (fun k => eT L (-1) f.toNat s.toNat k t.toNat) L.ca.length).1, ((sureTo (fun k => eT L (-1) f.toNat s.toNat k t.toNat) L.ca.length).2 : Int), 0) := by
    unfold sureR; rw [if_neg (by simpa using h)]
  have e2 : rsureR L f.toNat t.toNat s.toNat = if (L.su.length : Int) < (sureTo (fun k => eT L (-1) f.toNat s.toNat k t.toNat) L.ca.length).1 then (-1, 0) else ((sureTo (fun k => eT L (-1) f.toNat s.toNat k t.toNat) L.ca.length).1, ((sureTo (fun k => eT L (-1) f.toNat s.toNat k t.toNat) L.ca.length).2 : Int)) := rfl
  rw [e1, e2]
  by_cases hE : (L.su.length : Int) < (sureTo (fun k => eT L (-1) f.toNat s.toNat k t.toNat) L.ca.length).1
  · rw [if_pos hE, if_pos hE]
    exact ⟨fun _ => rfl, fun h => absurd (show ((-1, 0) : Int × Int).1 < 0 by decide) h⟩
  · rw [if_neg hE, if_neg hE]
    refine ⟨fun h => ?_, fun _ => rfl⟩
    simp only at h
    omega
theorem stuck_err {L : Lnd} {f t s : Int} (h : openE L [f, t] [s] 0 ≠ 0) : stuckR L f t s = ([], openE L [f, t] [s] 0) := by unfold stuckR; rw [if_pos h]
theorem stuck_eq {L : Lnd} {f t s : Int} (h : openE L [f, t] [s] 0 = 0) : stuckR L f t s = (rstuckR L (-1) f.toNat t.toNat s.toNat, 0) := by
  unfold stuckR rstuckR
  rw [if_neg (by simpa using h)]
end Go.Proofs.Ytdfohielnfdmkaa

