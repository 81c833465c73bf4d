/- Part KR of the proof: P0 · P1. -/
import Derived.ProofKit
import Derived.Deep.Slices
import Derived.Lib.SmallJoins
import Derived.Test.YtdfohielnfdmkaaRows
import Derived.OpenShut
import Derived.Carry
import Derived.Test.YtdfohielnfdmkaaKM
import Derived.Test.YtdfohielnfdmkaaKP
set_option linter.unusedVariables false
set_option linter.unusedSimpArgs false
/- The rows: a land of the reference that came in is opened: whatever it is, it lies as a raw land. -/
set_option linter.unusedVariables false
set_option linter.unusedSimpArgs false
namespace Go.Proofs.Ytdfohielnfdmkaa
open Go.RowKit Go.Deep Go.Joins Go.WideShapes Go.ChangeShapes

theorem cell_spot {w : World} {a : Addr} {v : Value} (h : w.cell? a = some v) : ∃ b o, a = ⟨b, o, none⟩ := by
  obtain ⟨b, o, s⟩ := a
  cases s with
  | none => exact ⟨b, o, rfl⟩
  | some s => unfold World.cell? at h; revert h; split <;> simp
section
variable {H : Type} {enc : TypeId × Value → H} {P : Program} {w : World} {base : Nat} {spare : Nat → Bool} {held : Bool}
/-- A slice that came in, its elements opened by a law. -/
theorem open_rows {α : Type} {en : α → List Value} {Ok : α → Prop} {k fuel : Nat} {t e : TypeId} {cs : List Value} {x : DataW H × List MemPlace} (ht : P.underlying t = some (.slice e)) (hc : P.cellsOf e = k) (hk : ∀ x, (en x).length = k) (hk0 : 0 < k)
    (hel : ∀ n cs' y, DataW.trod enc P w base spare held n e cs' = some y → ∃ x : α, cs' = en x ∧ Ok x) (h : DataW.trod enc P w base spare held fuel t cs = some x) :
    ∃ (A : Option Addr) (xs : List α) (c : Nat), cs = [.slice A xs.length c] ∧ RowAt w A k en xs ∧ xs.length ≤ c ∧ ∀ (i : Nat) (x : α), xs[i]? = some x → Ok x := by
  rcases open_slice ht h with ⟨rfl, _⟩ | ⟨a, len, cap, m, n, D, Pl, rfl, hb, hl, hm, hmm, _, hx⟩
  · exact ⟨none, [], 0, rfl, RowAt.nil _ _ _ _, Nat.le_refl _, fun i x hi => by simp at hi⟩
  · have hlm : len ≤ m := by rw [hmm]; split <;> omega
    have hex : ∀ i : Nat, i < len → ∃ z : α, w.cells? base (a.add (i * k)) k = some (en z) ∧ Ok z := fun i hi => by
      obtain ⟨cs', h1, h2⟩ := hx i (by omega)
      rw [hc] at h1
      obtain ⟨z, rfl, hz⟩ := hel _ _ _ h2
      exact ⟨z, h1, hz⟩
    have hlist : ∀ m, m ≤ len → ∃ xs : List α, xs.length = m ∧ ∀ i z, xs[i]? = some z → w.cells? base (a.add (i * k)) k = some (en z) ∧ Ok z := by
      intro m
      induction m with
      | zero => intro _; exact ⟨[], rfl, fun i z hi => by simp at hi⟩
      | succ m ih =>
        intro hm'
        obtain ⟨xs, hxl, hxs⟩ := ih (by omega)
        obtain ⟨z, hz⟩ := hex m (by omega)
        refine ⟨xs ++ [z], by simp [hxl], fun i y hi => ?_⟩
        rcases Nat.lt_or_ge i xs.length with hlt | hge
        · rw [List.getElem?_append_left hlt] at hi; exact hxs i y hi
        · rw [List.getElem?_append_right hge] at hi
          have : i = xs.length := by have := (List.getElem?_eq_some_iff.1 hi).1; simp at this; omega
          subst this
          simp at hi
          subst hi
          rw [hxl]; exact hz
    obtain ⟨xs, hxl, hxs⟩ := hlist len (Nat.le_refl _)
    refine ⟨some a, xs, cap, by rw [hxl], fun i z hi => ?_, by omega, fun i z hi => (hxs i z hi).2⟩
    obtain ⟨_, _, hcell⟩ := World.cells?_some (hxs i z hi).1
    obtain ⟨z0, hz0⟩ : ∃ z0, xs[0]? = some z0 := by
      have : 0 < xs.length := by have := (List.getElem?_eq_some_iff.1 hi).1; omega
      exact ⟨_, List.getElem?_eq_getElem this⟩
    obtain ⟨_, _, hcell0⟩ := World.cells?_some (hxs 0 z0 hz0).1
    have h00 := hcell0 0 (by omega)
    rw [Nat.zero_mul, List.getElem?_eq_getElem (by rw [hk]; omega)] at h00
    have ea : (a.add 0).add 0 = a := rfl
    rw [ea] at h00
    obtain ⟨b, o, rfl⟩ := cell_spot h00
    refine ⟨b, o, rfl, fun j v hv => ?_⟩
    have hj := (List.getElem?_eq_some_iff.1 hv).1
    rw [hk] at hj
    have := hcell j hj
    rw [hv] at this
    have e2 : ((⟨b, o, none⟩ : Addr).add (i * k)).add j = ⟨b, o + i * k + j, none⟩ := by unfold Addr.add; (repeat' split) <;> simp_all
    rw [e2] at this
    exact this
end
theorem cells_int : Try.prog.cellsOf 3 = 1 := by kernel_rfl
theorem cells_el_sta : Try.prog.cellsOf 77 = 4 := by kernel_rfl
theorem cells_el_wal : Try.prog.cellsOf 52 = 6 := by kernel_rfl
theorem cells_el_sun : Try.prog.cellsOf 83 = 3 := by kernel_rfl
theorem cells_el_clo : Try.prog.cellsOf 55 = 8 := by kernel_rfl
theorem cells_el_clos : Try.prog.cellsOf 53 = 1 := by kernel_rfl
theorem cells_land : Try.prog.cellsOf 27 = 4 := by kernel_rfl
section
variable {H : Type} {enc : TypeId × Value → H} {w : World} {base : Nat} {spare : Nat → Bool} {held : Bool}
set_option maxRecDepth 100000 in
theorem el_sta {n : Nat} {cs : List Value} {y : DataW H × List MemPlace} (h : DataW.trod enc Try.prog w base spare held n 77 cs = some y) : ∃ x : Sta, cs = encSta x ∧ True := by
  obtain ⟨xs, m, _, _, hl, hlen, hf⟩ := DataW.trod_struct Try.underlying77 h
  rw [cells_el_sta] at hl
  match cs, hl, xs, hlen with
  | [c0, c1, c2, c3], _, [y0, y1, y2, y3], _ =>
    obtain ⟨n0, e0, _, _⟩ := DataW.trod_int Try.underlying3 (show DataW.trod enc Try.prog w base spare held m 3 [c0] = some y0 by have h0 := hf 0 _ rfl; simpa [cells_int] using h0)
    simp at e0
    obtain ⟨n1, e1, _, _⟩ := DataW.trod_int Try.underlying3 (show DataW.trod enc Try.prog w base spare held m 3 [c1] = some y1 by have h0 := hf 1 _ rfl; simpa [cells_int] using h0)
    simp at e1
    obtain ⟨n2, e2, _, _⟩ := DataW.trod_int Try.underlying3 (show DataW.trod enc Try.prog w base spare held m 3 [c2] = some y2 by have h0 := hf 2 _ rfl; simpa [cells_int] using h0)
    simp at e2
    obtain ⟨n3, e3, _, _⟩ := DataW.trod_int Try.underlying3 (show DataW.trod enc Try.prog w base spare held m 3 [c3] = some y3 by have h0 := hf 3 _ rfl; simpa [cells_int] using h0)
    simp at e3
    subst e0 e1 e2 e3
    exact ⟨⟨n0, n1, n2, n3⟩, rfl, trivial⟩
set_option maxRecDepth 100000 in
theorem el_wal {n : Nat} {cs : List Value} {y : DataW H × List MemPlace} (h : DataW.trod enc Try.prog w base spare held n 52 cs = some y) : ∃ x : Wal, cs = encWal x ∧ True := by
  obtain ⟨xs, m, _, _, hl, hlen, hf⟩ := DataW.trod_struct Try.underlying52 h
  rw [cells_el_wal] at hl
  match cs, hl, xs, hlen with
  | [c0, c1, c2, c3, c4, c5], _, [y0, y1, y2, y3, y4, y5], _ =>
    obtain ⟨n0, e0, _, _⟩ := DataW.trod_int Try.underlying3 (show DataW.trod enc Try.prog w base spare held m 3 [c0] = some y0 by have h0 := hf 0 _ rfl; simpa [cells_int] using h0)
    simp at e0
    obtain ⟨n1, e1, _, _⟩ := DataW.trod_int Try.underlying3 (show DataW.trod enc Try.prog w base spare held m 3 [c1] = some y1 by have h0 := hf 1 _ rfl; simpa [cells_int] using h0)
    simp at e1
    obtain ⟨n2, e2, _, _⟩ := DataW.trod_int Try.underlying3 (show DataW.trod enc Try.prog w base spare held m 3 [c2] = some y2 by have h0 := hf 2 _ rfl; simpa [cells_int] using h0)
    simp at e2
    obtain ⟨n3, e3, _, _⟩ := DataW.trod_int Try.underlying3 (show DataW.trod enc Try.prog w base spare held m 3 [c3] = some y3 by have h0 := hf 3 _ rfl; simpa [cells_int] using h0)
    simp at e3
    obtain ⟨n4, e4, _, _⟩ := DataW.trod_int Try.underlying3 (show DataW.trod enc Try.prog w base spare held m 3 [c4] = some y4 by have h0 := hf 4 _ rfl; simpa [cells_int] using h0)
    simp at e4
    obtain ⟨n5, e5, _, _⟩ := DataW.trod_int Try.underlying3 (show DataW.trod enc Try.prog w base spare held m 3 [c5] = some y5 by have h0 := hf 5 _ rfl; simpa [cells_int] using h0)
    simp at e5
    subst e0 e1 e2 e3 e4 e5
    exact ⟨⟨n0, n1, n2, n3, n4, n5⟩, rfl, trivial⟩
set_option maxRecDepth 100000 in
theorem el_sun {n : Nat} {cs : List Value} {y : DataW H × List MemPlace} (h : DataW.trod enc Try.prog w base spare held n 83 cs = some y) : ∃ x : Sun, cs = encSun x ∧ True := by
  obtain ⟨xs, m, _, _, hl, hlen, hf⟩ := DataW.trod_struct Try.underlying83 h
  rw [cells_el_sun] at hl
  match cs, hl, xs, hlen with
  | [c0, c1, c2], _, [y0, y1, y2], _ =>
    obtain ⟨n0, e0, _, _⟩ := DataW.trod_int Try.underlying3 (show DataW.trod enc Try.prog w base spare held m 3 [c0] = some y0 by have h0 := hf 0 _ rfl; simpa [cells_int] using h0)
    simp at e0
    obtain ⟨n1, e1, _, _⟩ := DataW.trod_int Try.underlying3 (show DataW.trod enc Try.prog w base spare held m 3 [c1] = some y1 by have h0 := hf 1 _ rfl; simpa [cells_int] using h0)
    simp at e1
    obtain ⟨n2, e2, _, _⟩ := DataW.trod_int Try.underlying3 (show DataW.trod enc Try.prog w base spare held m 3 [c2] = some y2 by have h0 := hf 2 _ rfl; simpa [cells_int] using h0)
    simp at e2
    subst e0 e1 e2
    exact ⟨⟨n0, n1, n2⟩, rfl, trivial⟩
set_option maxRecDepth 100000 in
theorem el_clo {n : Nat} {cs : List Value} {y : DataW H × List MemPlace} (h : DataW.trod enc Try.prog w base spare held n 55 cs = some y) : ∃ x : Clo, cs = encClo x ∧ True := by
  obtain ⟨xs, m, _, _, hl, hlen, hf⟩ := DataW.trod_struct Try.underlying55 h
  rw [cells_el_clo] at hl
  match cs, hl, xs, hlen with
  | [c0, c1, c2, c3, c4, c5, c6, c7], _, [y0, y1, y2], _ =>
    obtain ⟨x, ex, _⟩ := el_wal (show DataW.trod enc Try.prog w base spare held m 52 [c0, c1, c2, c3, c4, c5] = some y0 by have h0 := hf 0 _ rfl; simpa [cells_el_wal] using h0)
    obtain ⟨n6, e6, _, _⟩ := DataW.trod_int Try.underlying3 (show DataW.trod enc Try.prog w base spare held m 3 [c6] = some y1 by have h0 := hf 1 _ rfl; simpa [cells_int] using h0)
    obtain ⟨n7, e7, _, _⟩ := DataW.trod_int Try.underlying3 (show DataW.trod enc Try.prog w base spare held m 3 [c7] = some y2 by have h0 := hf 2 _ rfl; simpa [cells_int] using h0)
    simp at e6 e7
    subst e6 e7
    simp only [encWal, List.cons.injEq, and_true] at ex
    obtain ⟨rfl, rfl, rfl, rfl, rfl, rfl⟩ := ex
    exact ⟨⟨x, n6, n7⟩, rfl, trivial⟩
/-- A slice of clouds, as a value. -/
structure SlC where
  A : Option Addr
  l : List Clo
  c : Nat
def encSlC (s : SlC) : List Value := [.slice s.A s.l.length s.c]
set_option maxRecDepth 100000 in
theorem el_clos {n : Nat} {cs : List Value} {y : DataW H × List MemPlace} (h : DataW.trod enc Try.prog w base spare held n 53 cs = some y) : ∃ x : SlC, cs = encSlC x ∧ (RowAt w x.A 8 encClo x.l ∧ x.l.length ≤ x.c) := by
  obtain ⟨A, xs, c, rfl, hr, hle, _⟩ := open_rows (α := Clo) (en := encClo) (Ok := fun _ => True) Try.underlying53 cells_el_clo (fun _ => rfl) (by omega) (fun n cs' y h => el_clo h) h
  exact ⟨⟨A, xs, c⟩, rfl, hr, hle⟩
set_option maxRecDepth 100000 in
/-- Whatever land comes in lies as a raw land. -/
theorem open_land {r : Reach} {b0 : Nat} {v : Value} {d : DataW H} {p : List MemPlace} (hv : Value.okWide Try.prog w r b0 27 v) (h : DataW.Trod enc Try.prog w base spare held 27 v d p) : ∃ V L, v = vLnd V L ∧ RawL w V L := by
  obtain ⟨v0, v1, v2, v3, y0, y1, y2, y3, n, rfl, _, _, h0, h1, h2, h3⟩ := open_agg4 Try.underlying27 (by kernel_rfl) cells_land hv h
  obtain ⟨A0, x0, c0, e0, r0, l0, _⟩ := open_rows (α := Sta) (en := encSta) (Ok := fun _ => True) Try.underlying22 cells_el_sta (fun _ => rfl) (by omega) (fun n cs' y h => el_sta h) h0
  obtain ⟨A1, x1, c1, e1, r1, l1, _⟩ := open_rows (α := Wal) (en := encWal) (Ok := fun _ => True) Try.underlying23 cells_el_wal (fun _ => rfl) (by omega) (fun n cs' y h => el_wal h) h1
  obtain ⟨A2, x2, c2, e2, r2, l2, ok2⟩ := open_rows (α := SlC) (en := encSlC) (Ok := fun x => RowAt w x.A 8 encClo x.l ∧ x.l.length ≤ x.c) Try.underlying24 cells_el_clos (fun _ => rfl) (by omega) (fun n cs' y h => el_clos h) h2
  obtain ⟨A3, x3, c3, e3, r3, l3, _⟩ := open_rows (α := Sun) (en := encSun) (Ok := fun _ => True) Try.underlying25 cells_el_sun (fun _ => rfl) (by omega) (fun n cs' y h => el_sun h) h3
  simp only [List.cons.injEq, and_true] at e0 e1 e2 e3
  subst e0 e1 e2 e3
  refine ⟨⟨A0, c0, A1, c1, A2, c2, A3, c3⟩, ⟨x0, x1, x2.map (·.l), x3⟩, by simp [vLnd], r0, r1, fun i l hl => ?_, r3, l0, l1, by simpa using l2, l3⟩
  rw [List.getElem?_map] at hl
  cases hx : x2[i]? with
  | none => rw [hx] at hl; cases hl
  | some z =>
    rw [hx] at hl
    cases hl
    obtain ⟨b, o, hA, hc⟩ := r2 i z hx
    obtain ⟨k1, k2⟩ := ok2 i z hx
    have := hc 0 _ rfl
    rw [Nat.mul_one] at this
    exact ⟨b, o, z.A, z.c, hA, this, k2, k1⟩
end
end Go.Proofs.Ytdfohielnfdmkaa

/- The rows: what every law over a land shares: behind the call the input reads as it did. -/
set_option linter.unusedVariables false
namespace Go.Proofs.Ytdfohielnfdmkaa
open Go.ChangeShapes Go.WideShapes Go.ChangeAt Go.RowKit

theorem own : ownKnob Try.prog.godebug = none := by kernel_rfl
theorem laidOut : laidOutB Try.prog = true := by kernel_rfl
theorem landRead : Try.prog.readableRec 27 = true := by kernel_rfl
theorem landRow : 27 < Try.prog.types.size := of_decide_eq_true (by kernel_rfl)
section
variable {H : Type} {enc : TypeId × Value → H} {P : Program}
/-- The end of a row whose call makes memory alone. -/
theorem post_below {f : Func} {s : ChangeSpec} {apart fresh handsOn again : Bool} {W W' : World} {args : Array Value} {v : Value} {ds gs : List (DataW H)} {before pa pv : List MemPlace}
    (hW : DataW.Whole enc P f.params.toList s.vars apart W args.toList ds gs before)
    (hres : ∀ (b : Nat) (sp : Nat → Bool) (hd : Bool), DataW.TrodAll enc P W' b sp hd f.resultTypes.toList (v.resultList f.resultTypes.size) (s.fn H (ds ++ gs)).results [])
    (hargs : ∀ sp : Nat → Bool, (∀ p ∈ before, sp p.block = true) → DataW.TrodAll enc P W' 0 sp true f.params.toList args.toList (s.fn H (ds ++ gs)).args pa)
    (hvars : ∀ sp : Nat → Bool, (∀ p ∈ before, sp p.block = true) → DataW.TrodVars enc P W' sp s.vars (s.fn H (ds ++ gs)).vars pv)
    (hps : before = pa ++ pv) (hb : Below W.heap.size W W')
    (hok : ∀ (j : Nat) (t : TypeId) (r : Value), f.resultTypes[j]? = some t → (v.resultList f.resultTypes.size)[j]? = some r → Value.okWide P W' .any 0 t r) :
    s.post enc P f apart fresh handsOn again W args v W' := by
  have hlt : ∀ p ∈ before, p.block < W.heap.size := fun p hp => hW.lt p hp
  have hold : ∀ p ∈ before, (fun b => decide (b < W.heap.size)) p.block = true := fun p hp => by simpa using hlt p hp
  refine ⟨ds, gs, before, [], pa, pv, hW, hres _ _ _, hargs _ hold, hvars _ hold, World.keptBut_mono (fun p hp => ⟨hp, ?_⟩) (hb.frame (· ∈ before)), fun _ => ?_⟩
  · rw [hps, List.mem_append] at hp
    exact Or.inr hp
  · obtain ⟨_, _, _, _, _, hz, hn⟩ := hW
    refine ⟨hok, _, _, ([] ++ pa) ++ pv, ⟨[] ++ pa, pv, trodAll_append (hargs _ (fun _ _ => rfl)) (hres _ _ _), hvars _ (fun _ _ => rfl), rfl, ?_, ?_⟩, ?_⟩
    · intro b off hp
      have hin : MemPlace.cell b off ∈ before := by rw [hps]; simpa using hp
      rw [hb.frozen (hlt _ hin)]
      exact hz b off hin
    · intro ha
      have := hn ha
      rw [hps] at this
      simpa using this
    · intro p hp _
      rw [hps]
      simpa using hp
end
end Go.Proofs.Ytdfohielnfdmkaa

