/- Part KE of the proof: M · O · W8 · W9. -/
import Derived.Test.YtdfohielnfdmkaaKC
import Derived.Test.YtdfohielnfdmkaaKD
set_option linter.unusedVariables false
set_option linter.unusedSimpArgs false
/- Maps whose keys are two ints in a struct: what a look-up and a store do, of a map of which one fact is known of each entry; and what is kept where such maps alone are written. -/
set_option linter.unusedVariables false
set_option linter.unusedSimpArgs false
namespace Go.Proofs.Ytdfohielnfdmkaa
open Go.RowKit

/-- Block r is a map, and of each of its entries φ is known. -/
def MapInv (w : World) (r : Nat) (φ : Int → Int → Value → Prop) : Prop :=
  ∃ es clock, w.heap[r]? = some (.map es clock) ∧ ∀ e, e ∈ es.toList → ∃ a b, e.key = .agg #[.int .i64 a, .int .i64 b] ∧ φ a b e.val
theorem MapInv.mono {w w' : World} {r : Nat} {φ ψ : Int → Int → Value → Prop} (h : MapInv w r φ) (hb : w'.heap[r]? = w.heap[r]?) (hi : ∀ a b v, φ a b v → ψ a b v) : MapInv w' r ψ := by
  obtain ⟨es, clock, h1, h2⟩ := h
  refine ⟨es, clock, hb.trans h1, fun e he => ?_⟩
  obtain ⟨a, b, h3, h4⟩ := h2 e he
  exact ⟨a, b, h3, hi _ _ _ h4⟩

structure PairKey (P : Program) (k : TypeId) : Prop where
  eq : ∀ (w : World) (a b c d : Int), (Op.equal k (.agg #[.int .i64 a, .int .i64 b]) (.agg #[.int .i64 c, .int .i64 d])).run P w = .ok (decide (a = c) && decide (b = d)) w
  chk : ∀ (w : World) (e : Bool) (a b : Int), (Instr.checkKey e 10000 k (.agg #[.int .i64 a, .int .i64 b])).run P w = .ok () w
  under : ∃ fs, P.underlying k = some (.struct fs)

theorem find_asking {P : Program} {k : TypeId} (K : PairKey P k) (a b : Int) (φ : Int → Int → Value → Prop) : ∀ (es : List MapEntry) (i : Nat),
    (∀ e, e ∈ es → ∃ c d, e.key = .agg #[.int .i64 c, .int .i64 d] ∧ φ c d e.val) →
    ∃ r, (∀ w, (Instr.findAsking k (.agg #[.int .i64 a, .int .i64 b]) es i).run P w = .ok r w) ∧
      (r = none ∨ ∃ j e, r = some (i + j, e.val) ∧ es[j]? = some e ∧ e.key = .agg #[.int .i64 a, .int .i64 b] ∧ φ a b e.val)
  | [], i, _ => ⟨none, fun w => by simp [Instr.findAsking], .inl rfl⟩
  | e :: es, i, h => by
    obtain ⟨c, d, hk, hφ⟩ := h e (List.mem_cons_self ..)
    simp only [Instr.findAsking, hk, Sem.run_bind, K.eq, Result.andThen_ok]
    by_cases hcd : a = c ∧ b = d
    · obtain ⟨rfl, rfl⟩ := hcd
      exact ⟨some (i, e.val), fun w => by simp, .inr ⟨0, e, rfl, rfl, hk, hφ⟩⟩
    · have hf : (decide (a = c) && decide (b = d)) = false := by
        rw [Bool.and_eq_false_iff]
        by_cases h1 : a = c
        · right; simp; intro h2; exact hcd ⟨h1, h2⟩
        · left; simpa using h1
      rw [hf]
      obtain ⟨r, hr, hcase⟩ := find_asking K a b φ es (i + 1) (fun x hx => h x (List.mem_cons_of_mem _ hx))
      refine ⟨r, fun w => by simpa using hr w, ?_⟩
      rcases hcase with h0 | ⟨j, e2, h1, h2, h3, h4⟩
      · exact .inl h0
      · exact .inr ⟨j + 1, e2, by rw [h1]; congr 2; omega, by simpa using h2, h3, h4⟩

theorem find_key {P : Program} {k : TypeId} (K : PairKey P k) (a b : Int) (φ : Int → Int → Value → Prop) (es : List MapEntry)
    (h : ∀ e, e ∈ es → ∃ c d, e.key = .agg #[.int .i64 c, .int .i64 d] ∧ φ c d e.val) :
    ∃ r, (∀ w, (Instr.findKey k (.agg #[.int .i64 a, .int .i64 b]) es).run P w = .ok r w) ∧
      (r = none ∨ ∃ j e, r = some (j, e.val) ∧ es[j]? = some e ∧ e.key = .agg #[.int .i64 a, .int .i64 b] ∧ φ a b e.val) := by
  obtain ⟨fs, hu⟩ := K.under
  simp only [Instr.findKey, Sem.run_bind, run_underlying hu, Result.andThen_ok]
  cases es with
  | nil => exact ⟨none, fun w => by simp [Instr.findNow], .inl rfl⟩
  | cons e es =>
    have : Instr.findNow (.struct fs) (.agg #[.int .i64 a, .int .i64 b]) (e :: es) 0 = none := by simp [Instr.findNow, Instr.sameNow]
    rw [this]
    obtain ⟨r, hr, hc⟩ := find_asking K a b φ (e :: es) 0 h
    refine ⟨r, hr, ?_⟩
    simpa using hc

/-- v, ok := m[k]. -/
theorem run_lookup_pair {P : Program} {t k el : TypeId} {z : Value} (K : PairKey P k) (ht : P.underlying t = some (.map k el)) (hz : ∀ w, (zeroValue el).run P w = .ok z w) {w : World} {r : Nat} {φ : Int → Int → Value → Prop} (h : MapInv w r φ) (a b : Int) :
    ∃ v ok, (∀ W : World, W.heap[r]? = w.heap[r]? → (Instr.lookup t (.map (some r)) (.agg #[.int .i64 a, .int .i64 b]) true).run P W = .ok (.tuple #[v, .bool ok]) W) ∧ ((ok = false ∧ v = z) ∨ (ok = true ∧ φ a b v)) := by
  obtain ⟨es, clock, hh, hes⟩ := h
  obtain ⟨x, hx, hc⟩ := find_key K a b φ es.toList hes
  have hg : ∀ W : World, W.heap[r]? = w.heap[r]? → (getObj r).run P W = .ok (.map es clock) W := fun W hW => by simp [getObj, Sem.run, hW, hh]
  rcases hc with rfl | ⟨j, e, rfl, h1, h2, h3⟩
  · refine ⟨z, false, fun W hW => ?_, .inl ⟨rfl, rfl⟩⟩
    simp [Instr.lookup, run_underlying ht, hg W hW, K.chk, hx, hz]
  · refine ⟨e.val, true, fun W hW => ?_, .inr ⟨rfl, h3⟩⟩
    simp [Instr.lookup, run_underlying ht, hg W hW, K.chk, hx]

/-- The world with another object at block r. -/
def setO (w : World) (r : Nat) (o : Obj) : World := { w with heap := w.heap.setIfInBounds r o }

/-- m[k] = v. -/
theorem run_update_pair {P : Program} {t k el : TypeId} (K : PairKey P k) (ht : P.underlying t = some (.map k el)) {w : World} {r : Nat} {φ : Int → Int → Value → Prop} (h : MapInv w r φ) (a b : Int) (v : Value) (hv : φ a b v) :
    ∃ es clock, (Instr.mapUpdate t (.map (some r)) (.agg #[.int .i64 a, .int .i64 b]) v).run P w = .ok () (setO w r (.map es clock)) ∧ MapInv (setO w r (.map es clock)) r φ := by
  obtain ⟨es, clock, hh, hes⟩ := h
  have hlt : r < w.heap.size := (Array.getElem?_eq_some_iff.1 hh).1
  obtain ⟨x, hx, hc⟩ := find_key K a b φ es.toList hes
  have hg : (getObj r).run P w = .ok (.map es clock) w := by simp [getObj, Sem.run, hh]
  have hs : ∀ o, (setObj r o).run P w = .ok () (setO w r o) := fun o => by simp [setObj, Sem.run, hh, setO]
  have hin : ∀ o, (setO w r o).heap[r]? = some o := fun o => by simp [setO, hlt]
  rcases hc with rfl | ⟨j, e, rfl, h1, h2, h3⟩
  · refine ⟨es.push { key := .agg #[.int .i64 a, .int .i64 b], val := v, born := clock }, clock + 1, ?_, _, _, hin _, ?_⟩
    · simp [Instr.mapUpdate, run_underlying ht, hg, K.chk, hx, hs]
    · intro e he
      rw [Array.toList_push, List.mem_append] at he
      rcases he with he | he
      · exact hes e he
      · simp at he; subst he; exact ⟨a, b, rfl, hv⟩
  · have hst : (Instr.keyThatStays (.agg #[.int .i64 a, .int .i64 b]) (.agg #[.int .i64 a, .int .i64 b])).run P w = .ok (.agg #[.int .i64 a, .int .i64 b]) w := by
      simp [Instr.keyThatStays, Instr.sameBits]
    have hold : ((es[j]?).map (·.key)).getD (.agg #[.int .i64 a, .int .i64 b]) = .agg #[.int .i64 a, .int .i64 b] := by
      have : es[j]? = some e := by simpa using h1
      rw [this]; simp [h2]
    refine ⟨es.modify j fun e => { e with key := .agg #[.int .i64 a, .int .i64 b], val := v }, clock, ?_, _, _, hin _, ?_⟩
    · simp only [Instr.mapUpdate, Sem.run_bind, run_underlying ht, Result.andThen_ok, hg, K.chk, hx, hold, hst, hs]
    · intro y hy
      obtain ⟨i, hi⟩ := List.mem_iff_getElem?.1 hy
      rw [Array.getElem?_toList, Array.getElem?_modify] at hi
      by_cases hij : j = i
      · subst hij
        rw [if_pos rfl] at hi
        cases hjj : es[j]? with
        | none => rw [hjj] at hi; cases hi
        | some y0 => rw [hjj] at hi; cases hi; exact ⟨a, b, rfl, hv⟩
      · rw [if_neg hij] at hi
        exact hes y (List.mem_iff_getElem?.2 ⟨i, by rw [Array.getElem?_toList]; exact hi⟩)

/-- w' is w with new blocks, and with writes to the maps S alone. -/
structure KeepM (S : Nat → Prop) (w w' : World) : Prop where
  os : w'.os = w.os
  tape : w'.tape = w.tape
  output : w'.output = w.output
  size : w.heap.size ≤ w'.heap.size
  block : ∀ k, k < w.heap.size → ¬ S k → w'.heap[k]? = w.heap[k]?
  old : ∀ k, S k → ∃ es c, w.heap[k]? = some (.map es c)
  new : ∀ k, S k → ∃ es c, w'.heap[k]? = some (.map es c)
def MapsOf (S : Nat → Prop) (w : World) : Prop := ∀ k, S k → ∃ es c, w.heap[k]? = some (.map es c)
theorem KeepM.refl {S : Nat → Prop} {w : World} (h : MapsOf S w) : KeepM S w w := ⟨rfl, rfl, rfl, Nat.le_refl _, fun _ _ _ => rfl, h, h⟩
theorem KeepM.trans {S : Nat → Prop} {a b c : World} (h : KeepM S a b) (k : KeepM S b c) : KeepM S a c :=
  ⟨k.os.trans h.os, k.tape.trans h.tape, k.output.trans h.output, Nat.le_trans h.size k.size, fun i hi hn => (k.block i (Nat.lt_of_lt_of_le hi h.size) hn).trans (h.block i hi hn), h.old, k.new⟩
theorem MapsOf.lt {S : Nat → Prop} {w : World} (h : MapsOf S w) {k : Nat} (hk : S k) : k < w.heap.size := by
  obtain ⟨es, c, h⟩ := h k hk; exact (Array.getElem?_eq_some_iff.1 h).1
theorem MapsOf.below {S : Nat → Prop} {w w' : World} (h : MapsOf S w) (hb : Below w.heap.size w w') : MapsOf S w' := fun k hk => by
  have := h.lt hk
  obtain ⟨es, c, h⟩ := h k hk; exact ⟨es, c, (hb.block k this).trans h⟩
theorem KeepM.of_below {S : Nat → Prop} {w w' : World} (h : MapsOf S w) (hb : Below w.heap.size w w') : KeepM S w w' :=
  ⟨hb.os, hb.tape, hb.output, hb.size, fun k hk _ => hb.block k hk, h, h.below hb⟩
theorem KeepM.tr {S : Nat → Prop} {w a b : World} (h : KeepM S w a) (k : Below a.heap.size a b) : KeepM S w b := h.trans (.of_below h.new k)
theorem KeepM.kept {S : Nat → Prop} {w w' : World} (h : KeepM S w w') : Kept w w' := fun a v hv => by
  have hlt := cell_lt hv
  by_cases hS : S a.block
  · obtain ⟨es, c, hm⟩ := h.old _ hS
    simp [World.cell?, hm] at hv
  · exact (World.cell?_of_block (w := w) (h.block _ hlt hS)).trans hv
theorem KeepM.cells {S : Nat → Prop} {w w' : World} (h : KeepM S w w') : ∀ b o, w'.cell? ⟨b, o, none⟩ = if b < w.heap.size then w.cell? ⟨b, o, none⟩ else newCell w' b o := fun b o => by
  split
  · rename_i hlt
    by_cases hS : S b
    · obtain ⟨es, c, hm⟩ := h.old _ hS
      obtain ⟨es', c', hm'⟩ := h.new _ hS
      simp [World.cell?, hm, hm']
    · exact World.cell?_of_block (w := w) (h.block _ hlt hS)
  · rfl
theorem KeepM.frozens {S : Nat → Prop} {w w' : World} (h : KeepM S w w') : ∀ b o, w'.frozen? ⟨b, o, none⟩ = if b < w.heap.size then w.frozen? ⟨b, o, none⟩ else newFrozen w' b o := fun b o => by
  split
  · rename_i hlt
    by_cases hS : S b
    · obtain ⟨es, c, hm⟩ := h.old _ hS
      obtain ⟨es', c', hm'⟩ := h.new _ hS
      simp [World.frozen?, hm, hm']
    · exact World.frozen?_of_block (w := w) (h.block _ hlt hS)
  · rfl
/-- Where the maps are the call's own, all that lay before lies as it lay. -/
theorem KeepM.below {S : Nat → Prop} {w a b : World} (h : Below w.heap.size w a) (k : KeepM S a b) (hS : ∀ i, S i → w.heap.size ≤ i) : Below w.heap.size w b :=
  ⟨k.os.trans h.os, k.tape.trans h.tape, k.output.trans h.output, Nat.le_trans h.size k.size, fun i hi => (k.block i (Nat.lt_of_lt_of_le hi h.size) (fun hs => by have := hS i hs; omega)).trans (h.block i hi)⟩
theorem KeepM.setO {S : Nat → Prop} {w : World} {r : Nat} {es : Array MapEntry} {c : Nat} (hS : MapsOf S w) (hr : S r) : KeepM S w (setO w r (.map es c)) := by
  have hlt := hS.lt hr
  refine ⟨rfl, rfl, rfl, by simp [Proofs.Ytdfohielnfdmkaa.setO], fun k hk hn => ?_, hS, fun k hk => ?_⟩
  · have : k ≠ r := fun e => hn (e ▸ hr)
    simp [Proofs.Ytdfohielnfdmkaa.setO, Array.getElem?_setIfInBounds, Ne.symm this]
  · by_cases e : k = r
    · subst e; exact ⟨es, c, by simp [Proofs.Ytdfohielnfdmkaa.setO, hlt]⟩
    · obtain ⟨es', c', h⟩ := hS k hk
      exact ⟨es', c', by simp [Proofs.Ytdfohielnfdmkaa.setO, Array.getElem?_setIfInBounds, Ne.symm e, h]⟩
end Go.Proofs.Ytdfohielnfdmkaa

/- Rows of the call's own, and rows as they are read. -/
set_option linter.unusedVariables false
namespace Go.Proofs.Ytdfohielnfdmkaa
open Go.RowKit

theorem owns_below {w w' : World} {base : Nat} {e : TypeId} {size : Nat} {v : Value} {n : Nat} {xs : List Value} (h : w.ownsRow base e size v n xs) (hb : Below w.heap.size w w') : w'.ownsRow base e size v n xs := by
  obtain ⟨h1, h2⟩ := h
  refine ⟨h1, ?_⟩
  rcases h2 with h2 | ⟨g, cap, cur, hv, hg, hh, r⟩
  · exact .inl h2
  · exact .inr ⟨g, cap, cur, hv, hg, by rw [hb.block g (Array.getElem?_eq_some_iff.1 hh).1]; exact hh, r⟩
theorem owns_keep {S : Nat → Prop} {w w' : World} {base : Nat} {e : TypeId} {size : Nat} {v : Value} {n : Nat} {xs : List Value} (h : w.ownsRow base e size v n xs) (hb : KeepM S w w') : w'.ownsRow base e size v n xs := by
  obtain ⟨h1, h2⟩ := h
  refine ⟨h1, ?_⟩
  rcases h2 with h2 | ⟨g, cap, cur, hv, hg, hh, r⟩
  · exact .inl h2
  · refine .inr ⟨g, cap, cur, hv, hg, ?_, r⟩
    by_cases hS : S g
    · obtain ⟨es, c, hm⟩ := hb.old _ hS; rw [hm] at hh; cases hh
    · rw [hb.block g (Array.getElem?_eq_some_iff.1 hh).1 hS]; exact hh

theorem flat_at {α : Type} (enc : α → List Value) (k : Nat) (hk : ∀ x, (enc x).length = k) : ∀ (xs : List α) (i : Nat) (x : α) (j : Nat) (v : Value), xs[i]? = some x → (enc x)[j]? = some v → (xs.flatMap enc)[i * k + j]? = some v
  | [], i, x, j, v, h, _ => by simp at h
  | y :: ys, 0, x, j, v, h, hv => by
    simp at h; subst h
    rw [List.flatMap_cons, Nat.zero_mul, Nat.zero_add, List.getElem?_append_left (List.getElem?_eq_some_iff.1 hv).1]; exact hv
  | y :: ys, i + 1, x, j, v, h, hv => by
    have := flat_at enc k hk ys i x j v (by simpa using h) hv
    rw [List.flatMap_cons, List.getElem?_append_right (by rw [hk, Nat.succ_mul]; omega), hk]
    rw [show (i + 1) * k + j - k = i * k + j by rw [Nat.succ_mul]; omega]; exact this

/-- A row of the call's own reads as a list. -/
theorem row_of_owns {α : Type} {w : World} {base : Nat} {e : TypeId} {k : Nat} {enc : α → List Value} {v : Value} {xs : List α} (hk : ∀ x, (enc x).length = k) (h : w.ownsRow base e k v xs.length (xs.flatMap enc)) :
    ∃ A c, v = .slice A xs.length c ∧ RowAt w A k enc xs ∧ xs.length ≤ c ∧ (∀ a, A = some a → base ≤ a.block) := by
  obtain ⟨h1, h2⟩ := h
  rcases h2 with ⟨rfl, h0⟩ | ⟨g, cap, cur, rfl, hg, hh, hn, hm, hs, ht⟩
  · have : xs = [] := List.length_eq_zero_iff.1 h0
    subst this
    exact ⟨none, 0, rfl, RowAt.nil _ _ _ _, Nat.le_refl _, fun a ha => by cases ha⟩
  · refine ⟨some ⟨g, 0, none⟩, cap, rfl, fun i x hx => ⟨g, 0, rfl, fun j u hu => ?_⟩, hn, fun a ha => by cases ha; exact hg⟩
    have hf := flat_at enc k hk xs i x j u hx hu
    rw [← ht, List.getElem?_take] at hf
    split at hf
    · simp only [World.cell?, hh, Option.isSome_none, Bool.false_eq_true, if_false]
      rw [Nat.zero_add, ← Array.getElem?_toList]; exact hf
    · cases hf
theorem flat_ints (xs : List Int) : xs.flatMap encInt = xs.map (Value.int .i64) := by
  induction xs with
  | nil => rfl
  | cons x xs ih => simp [encInt, ih]
/-- Of ints. -/
theorem row_of_ints {w : World} {base : Nat} {e : TypeId} {v : Value} {xs : List Int} (h : w.ownsRow base e 1 v xs.length (xs.map (Value.int .i64))) :
    ∃ A c, v = .slice A xs.length c ∧ RowAt w A 1 encInt xs ∧ xs.length ≤ c ∧ (∀ a, A = some a → base ≤ a.block) :=
  row_of_owns (fun _ => rfl) (by rw [flat_ints]; exact h)
end Go.Proofs.Ytdfohielnfdmkaa

/- Walks: a land at work (package hill): the errors of what is asked, the sun behind a station. -/
set_option linter.unusedVariables false
set_option linter.unusedSimpArgs false
namespace Go.Proofs.Ytdfohielnfdmkaa
open Go.RowKit
attribute [local go_sem low] cell_alloc_ite frozen_alloc_ite

def staAt (L : Lnd) (i : Int) : Sta := L.st.getD i.toNat sta0
def ridB (L : Lnd) (f t : Int) : Bool := L.ri.any fun r => blocksB r (staAt L f) (staAt L t)
/-- What is stored of two stations: the ridges that block, as far as 'why' looks at them. -/
def RidPhi (w : World) (L : Lnd) (f t : Int) (v : Value) : Prop :=
  ∃ A c xs, v = .slice A xs.length c ∧ RowAt w A 1 encInt xs ∧ xs.length ≤ 9 ∧ (!xs.isEmpty) = ridB L f t
theorem RidPhi.kept {w w' : World} {L : Lnd} {f t : Int} {v : Value} (h : RidPhi w L f t v) (hk : Kept w w') : RidPhi w' L f t v := by
  obtain ⟨A, c, xs, h1, h2, h3, h4⟩ := h
  exact ⟨A, c, xs, h1, h2.kept hk, h3, h4⟩

abbrev hwCells (V : LV) (L : Lnd) (r : Nat) : List Value := [.slice V.a0 L.st.length V.c0, .slice V.a1 L.ri.length V.c1, .slice V.a2 L.ca.length V.c2, .slice V.a3 L.su.length V.c3, .map (some r)]
/-- A land at work: its block p, its map r. -/
structure HW (w : World) (p r : Nat) (V : LV) (L : Lnd) : Prop where
  cells : CellsAt w p (hwCells V L r)
  map : MapInv w r (RidPhi w L)
  rd : RdL w V L
theorem MapInv.maps {w : World} {r : Nat} {φ : Int → Int → Value → Prop} (h : MapInv w r φ) : MapsOf (fun k => k = r) w := fun k hk => by
  subst hk; obtain ⟨es, c, h, _⟩ := h; exact ⟨es, c, h⟩
theorem HW.below {w w' : World} {p r : Nat} {V : LV} {L : Lnd} (h : HW w p r V L) (hb : Below w.heap.size w w') : HW w' p r V L := by
  have hk := kept_of_below hb
  exact ⟨h.cells.kept hk, h.map.mono (hb.block r (h.map.maps.lt rfl)) (fun _ _ _ q => q.kept hk), h.rd.kept hk⟩
theorem HW.keep {w w' : World} {p r : Nat} {V : LV} {L : Lnd} (h : HW w p r V L) (hk : KeepM (fun k => k = r) w w') (hm : MapInv w' r (RidPhi w' L)) : HW w' p r V L :=
  ⟨h.cells.kept hk.kept, hm, h.rd.kept hk.kept⟩

set_option maxHeartbeats 400000 in
theorem workErr_any (V : LV) (L : Lnd) (w : World) (h : RdL w V L) (hf : (faultL L != 0) = true) :
    Calls Try.prog 70 #[vLnd V L] w fun e w' => e = .returned (.tuple #[.pointer none, .int .i64 (faultL L)]) ∧ Below w.heap.size w w' := by
  have H := Lib.hid h
  clear h
  go_enter Try.func70, Try.ntmps70
  go_wp2_with (go_at_call 44; refine (check_any V L _ (H.out.kept (kept_of_below (by (repeat (first | exact Below.refl _ _ | (with_reducible exact Hid.out (by assumption)) | refine below_al ?_ _ | refine below_dr ?_ | refine below_tr ?_ (by assumption) | refine below_tr ?_ (Bel.out (by assumption)) | refine below_tr ?_ (Bel.out (ov_bel _ _)) | refine below_set ?_ (by simp; try omega))))))).mono ?_; rintro e w' ⟨rfl, hb⟩; obtain ⟨hc, hf⟩ := bcell hb; have hz := hb.size; try simp at hz)
  go_ret2
  exact ⟨rfl, by (repeat (first | exact Below.refl _ _ | (with_reducible exact Hid.out (by assumption)) | refine below_al ?_ _ | refine below_dr ?_ | refine below_tr ?_ (by assumption) | refine below_tr ?_ (Bel.out (by assumption)) | refine below_tr ?_ (Bel.out (ov_bel _ _)) | refine below_set ?_ (by simp; try omega)))⟩

theorem cells5 {w : World} {b : Nat} {v0 v1 v2 v3 v4 : Value} (h0 : w.cell? ⟨b, 0, none⟩ = some v0) (h1 : w.cell? ⟨b, 1, none⟩ = some v1) (h2 : w.cell? ⟨b, 2, none⟩ = some v2) (h3 : w.cell? ⟨b, 3, none⟩ = some v3)
    (h4 : w.cell? ⟨b, 4, none⟩ = some v4) : CellsAt w b [v0, v1, v2, v3, v4] := by
  intro j v hv
  match j, hv with
  | 0, hv => cases hv; exact h0
  | 1, hv => cases hv; exact h1
  | 2, hv => cases hv; exact h2
  | 3, hv => cases hv; exact h3
  | 4, hv => cases hv; exact h4
theorem heap_al2 (w : World) (o1 o2 : Obj) : ((w.alloc o1).alloc o2).heap[w.heap.size]? = some o1 :=
  (Below.heap_alloc _ _ _ (by simp)).trans (by show (w.heap.push o1)[w.heap.size]? = _; simp)
/-- A land at work was made. -/
def WorkMade (V : LV) (L : Lnd) (w : World) (e : Ending) (w' : World) : Prop :=
  ∃ p r, e = .returned (.tuple #[.pointer (some ⟨p, 0, none⟩), .int .i64 0]) ∧ Below w.heap.size w w' ∧ w.heap.size ≤ p ∧ w.heap.size ≤ r ∧ CellsAt w' p (hwCells V L r) ∧ w'.heap[r]? = some (.map #[] 0)

set_option maxHeartbeats 400000 in
theorem work_any (V : LV) (L : Lnd) (w : World) (h : RdL w V L) (hf : faultL L = 0) :
    Calls Try.prog 70 #[vLnd V L] w (WorkMade V L w) := by
  have H := Lib.hid h
  have HF := Lib.hid hf
  clear h hf
  have hmm := @run_makeMap Try.prog
  go_enter Try.func70, Try.ntmps70
  go_wp2_with (go_at_call 44; refine (check_any V L _ (H.out.kept (kept_of_below (by (repeat (first | exact Below.refl _ _ | (with_reducible exact Hid.out (by assumption)) | refine below_al ?_ _ | refine below_dr ?_ | refine below_tr ?_ (by assumption) | refine below_tr ?_ (Bel.out (by assumption)) | refine below_tr ?_ (Bel.out (ov_bel _ _)) | refine below_set ?_ (by simp; try omega))))))).mono ?_; rw [HF.out]; rintro e w' ⟨rfl, hb⟩; obtain ⟨hc, hf⟩ := bcell hb; have hz := hb.size; try simp at hz)
  go_ret2
  exact ⟨w'.heap.size + 1, w'.heap.size, rfl, by (repeat (first | exact Below.refl _ _ | (with_reducible exact Hid.out (by assumption)) | refine below_al ?_ _ | refine below_dr ?_ | refine below_tr ?_ (by assumption) | refine below_tr ?_ (Bel.out (by assumption)) | refine below_tr ?_ (Bel.out (ov_bel _ _)) | refine below_set ?_ (by simp; try omega))), by omega, by omega, cells5 (by (try go_simp); (repeat (simp only [↓IntWalk.iteOmega]; (try go_simp))); (try omega)) (by (try go_simp); (repeat (simp only [↓IntWalk.iteOmega]; (try go_simp))); (try omega)) (by (try go_simp); (repeat (simp only [↓IntWalk.iteOmega]; (try go_simp))); (try omega)) (by (try go_simp); (repeat (simp only [↓IntWalk.iteOmega]; (try go_simp))); (try omega)) (by (try go_simp); (repeat (simp only [↓IntWalk.iteOmega]; (try go_simp))); (try omega)), heap_al2 _ _ _⟩

/-- The error of stations, a case and an hour of a land. -/
def askedI (L : Lnd) (f t k h : Int) : Int :=
  if !inR f 0 ((L.st.length : Int) - 1) || !inR t 0 ((L.st.length : Int) - 1) || !inR k 0 ((L.ca.length : Int) - 1) || !inR h 0 ((L.su.length : Int) - 1) then 2 else if f = t then 6 else 0

set_option maxHeartbeats 1000000 in
theorem asked_any (V : LV) (L : Lnd) (f t k h : Int) (w : World) (h0 : L.st.length ≤ 9) (h2 : L.ca.length ≤ 9) (h3 : L.su.length ≤ 15) :
    Calls Try.prog 71 #[vLnd V L, .agg #[.int .i64 f, .int .i64 t], .int .i64 k, .int .i64 h] w fun e w' => e = .returned (.int .i64 (askedI L f t k h)) ∧ Below w.heap.size w w' := by
  have HA : Hid (askedI L f t k h = if !inR f 0 ((L.st.length : Int) - 1) || !inR t 0 ((L.st.length : Int) - 1) || !inR k 0 ((L.ca.length : Int) - 1) || !inR h 0 ((L.su.length : Int) - 1) then 2 else if f = t then 6 else 0) := Lib.hid rfl
  cases hft : (f == t) with
  | true =>
    have hft' : f = t := by simpa using hft
    have HE := Lib.hid hft'
    clear hft'
    rcases Bool.eq_false_or_eq_true (!inR f 0 ((L.st.length : Int) - 1)) with hb0 | hb0
    · go_enter Try.func71, Try.ntmps71
      go_wp2_with (go_at_call 74; refine (within_any _ _ _ _).mono ?_; rintro e w' ⟨rfl, rfl⟩)
      go_ret
      exact ⟨by rw [HA.out]; have := HE.out; simp_all, by (repeat (first | exact Below.refl _ _ | (with_reducible exact Hid.out (by assumption)) | refine below_al ?_ _ | refine below_dr ?_ | refine below_tr ?_ (by assumption) | refine below_tr ?_ (Bel.out (by assumption)) | refine below_tr ?_ (Bel.out (ov_bel _ _)) | refine below_set ?_ (by simp; try omega)))⟩
    · rcases Bool.eq_false_or_eq_true (!inR t 0 ((L.st.length : Int) - 1)) with hb1 | hb1
      · go_enter Try.func71, Try.ntmps71
        go_wp2_with (go_at_call 74; refine (within_any _ _ _ _).mono ?_; rintro e w' ⟨rfl, rfl⟩)
        go_ret
        exact ⟨by rw [HA.out]; have := HE.out; simp_all, by (repeat (first | exact Below.refl _ _ | (with_reducible exact Hid.out (by assumption)) | refine below_al ?_ _ | refine below_dr ?_ | refine below_tr ?_ (by assumption) | refine below_tr ?_ (Bel.out (by assumption)) | refine below_tr ?_ (Bel.out (ov_bel _ _)) | refine below_set ?_ (by simp; try omega)))⟩
      · rcases Bool.eq_false_or_eq_true (!inR k 0 ((L.ca.length : Int) - 1)) with hb2 | hb2
        · go_enter Try.func71, Try.ntmps71
          go_wp2_with (go_at_call 74; refine (within_any _ _ _ _).mono ?_; rintro e w' ⟨rfl, rfl⟩)
          go_ret
          exact ⟨by rw [HA.out]; have := HE.out; simp_all, by (repeat (first | exact Below.refl _ _ | (with_reducible exact Hid.out (by assumption)) | refine below_al ?_ _ | refine below_dr ?_ | refine below_tr ?_ (by assumption) | refine below_tr ?_ (Bel.out (by assumption)) | refine below_tr ?_ (Bel.out (ov_bel _ _)) | refine below_set ?_ (by simp; try omega)))⟩
        · rcases Bool.eq_false_or_eq_true (!inR h 0 ((L.su.length : Int) - 1)) with hb3 | hb3
          · go_enter Try.func71, Try.ntmps71
            go_wp2_with (go_at_call 74; refine (within_any _ _ _ _).mono ?_; rintro e w' ⟨rfl, rfl⟩)
            go_ret
            exact ⟨by rw [HA.out]; have := HE.out; simp_all, by (repeat (first | exact Below.refl _ _ | (with_reducible exact Hid.out (by assumption)) | refine below_al ?_ _ | refine below_dr ?_ | refine below_tr ?_ (by assumption) | refine below_tr ?_ (Bel.out (by assumption)) | refine below_tr ?_ (Bel.out (ov_bel _ _)) | refine below_set ?_ (by simp; try omega)))⟩
          · go_enter Try.func71, Try.ntmps71
            go_wp2_with (go_at_call 74; refine (within_any _ _ _ _).mono ?_; rintro e w' ⟨rfl, rfl⟩)
            go_ret
            exact ⟨by rw [HA.out]; have := HE.out; simp_all, by (repeat (first | exact Below.refl _ _ | (with_reducible exact Hid.out (by assumption)) | refine below_al ?_ _ | refine below_dr ?_ | refine below_tr ?_ (by assumption) | refine below_tr ?_ (Bel.out (by assumption)) | refine below_tr ?_ (Bel.out (ov_bel _ _)) | refine below_set ?_ (by simp; try omega)))⟩
  | false =>
    have hft' : ¬ f = t := by simpa using hft
    have HE := Lib.hid hft'
    clear hft'
    rcases Bool.eq_false_or_eq_true (!inR f 0 ((L.st.length : Int) - 1)) with hb0 | hb0
    · go_enter Try.func71, Try.ntmps71
      go_wp2_with (go_at_call 74; refine (within_any _ _ _ _).mono ?_; rintro e w' ⟨rfl, rfl⟩)
      go_ret
      exact ⟨by rw [HA.out]; have := HE.out; simp_all, by (repeat (first | exact Below.refl _ _ | (with_reducible exact Hid.out (by assumption)) | refine below_al ?_ _ | refine below_dr ?_ | refine below_tr ?_ (by assumption) | refine below_tr ?_ (Bel.out (by assumption)) | refine below_tr ?_ (Bel.out (ov_bel _ _)) | refine below_set ?_ (by simp; try omega)))⟩
    · rcases Bool.eq_false_or_eq_true (!inR t 0 ((L.st.length : Int) - 1)) with hb1 | hb1
      · go_enter Try.func71, Try.ntmps71
        go_wp2_with (go_at_call 74; refine (within_any _ _ _ _).mono ?_; rintro e w' ⟨rfl, rfl⟩)
        go_ret
        exact ⟨by rw [HA.out]; have := HE.out; simp_all, by (repeat (first | exact Below.refl _ _ | (with_reducible exact Hid.out (by assumption)) | refine below_al ?_ _ | refine below_dr ?_ | refine below_tr ?_ (by assumption) | refine below_tr ?_ (Bel.out (by assumption)) | refine below_tr ?_ (Bel.out (ov_bel _ _)) | refine below_set ?_ (by simp; try omega)))⟩
      · rcases Bool.eq_false_or_eq_true (!inR k 0 ((L.ca.length : Int) - 1)) with hb2 | hb2
        · go_enter Try.func71, Try.ntmps71
          go_wp2_with (go_at_call 74; refine (within_any _ _ _ _).mono ?_; rintro e w' ⟨rfl, rfl⟩)
          go_ret
          exact ⟨by rw [HA.out]; have := HE.out; simp_all, by (repeat (first | exact Below.refl _ _ | (with_reducible exact Hid.out (by assumption)) | refine below_al ?_ _ | refine below_dr ?_ | refine below_tr ?_ (by assumption) | refine below_tr ?_ (Bel.out (by assumption)) | refine below_tr ?_ (Bel.out (ov_bel _ _)) | refine below_set ?_ (by simp; try omega)))⟩
        · rcases Bool.eq_false_or_eq_true (!inR h 0 ((L.su.length : Int) - 1)) with hb3 | hb3
          · go_enter Try.func71, Try.ntmps71
            go_wp2_with (go_at_call 74; refine (within_any _ _ _ _).mono ?_; rintro e w' ⟨rfl, rfl⟩)
            go_ret
            exact ⟨by rw [HA.out]; have := HE.out; simp_all, by (repeat (first | exact Below.refl _ _ | (with_reducible exact Hid.out (by assumption)) | refine below_al ?_ _ | refine below_dr ?_ | refine below_tr ?_ (by assumption) | refine below_tr ?_ (Bel.out (by assumption)) | refine below_tr ?_ (Bel.out (ov_bel _ _)) | refine below_set ?_ (by simp; try omega)))⟩
          · go_enter Try.func71, Try.ntmps71
            go_wp2_with (go_at_call 74; refine (within_any _ _ _ _).mono ?_; rintro e w' ⟨rfl, rfl⟩)
            go_ret
            exact ⟨by rw [HA.out]; have := HE.out; simp_all, by (repeat (first | exact Below.refl _ _ | (with_reducible exact Hid.out (by assumption)) | refine below_al ?_ _ | refine below_dr ?_ | refine below_tr ?_ (by assumption) | refine below_tr ?_ (Bel.out (by assumption)) | refine below_tr ?_ (Bel.out (ov_bel _ _)) | refine below_set ?_ (by simp; try omega)))⟩

/-- The stations and the suns of a valid land. -/
structure Okay (L : Lnd) : Prop where
  fault : faultL L = 0
  s0 : 1 ≤ L.st.length
  s1 : L.st.length ≤ 6
  c0 : 1 ≤ L.ca.length
  c1 : L.ca.length ≤ 4
  u0 : 1 ≤ L.su.length
  u1 : L.su.length ≤ 12
  r1 : L.ri.length ≤ 6
  k1 : ∀ k, k ∈ L.ca → k.length ≤ 4
  st : ∀ s, s ∈ L.st → staOk s = true
  ri : ∀ r, r ∈ L.ri → ridOk r = true
  ca : ∀ k, k ∈ L.ca → ∀ c, c ∈ k → cloOk L.su.length c = true
  su : ∀ s, s ∈ L.su → sunOk s = true
theorem okay_of {L : Lnd} (h : faultL L = 0) : Okay L := by
  have hl : limL L = false := by
    cases hl : limL L with
    | true => simp [faultL, hl] at h
    | false => rfl
  have hb : badL L = false := by
    cases hb : badL L with
    | true => simp [faultL, hl, hb] at h
    | false => rfl
  obtain ⟨d0, d1, d2, d3, d4⟩ := lim_not hl
  simp only [badL, Bool.or_eq_false_iff, decide_eq_false_iff_not, Bool.not_eq_false'] at hb
  obtain ⟨⟨⟨⟨⟨⟨⟨b0, b1⟩, b2⟩, b3⟩, _⟩, b5⟩, b6⟩, b7⟩ := hb
  simp only [decide_eq_false_iff_not] at d0 d1 d2 d3
  refine ⟨h, by omega, by omega, by omega, by omega, by omega, by omega, by omega, ?_, List.all_eq_true.1 b3, List.all_eq_true.1 b5, ?_, List.all_eq_true.1 b7⟩
  · intro k hk
    have := List.all_eq_true.1 d4 k hk
    simpa [fewC] using this
  · intro k hk c hc
    exact List.all_eq_true.1 (List.all_eq_true.1 b6 k hk) c hc

/-- How many mirrors a station needs. -/
def mirI (a b : Sta) (s : Sun) : Int := if s.e * (b.x - a.x) + s.n * (b.y - a.y) < 0 then 2 else 1
theorem mir_bd {a b : Sta} {s : Sun} (ha : staOk a = true) (hb : staOk b = true) (hs : sunOk s = true) :
    (-10000 ≤ s.e * (b.x - a.x) ∧ s.e * (b.x - a.x) ≤ 10000) ∧ (-10000 ≤ s.n * (b.y - a.y) ∧ s.n * (b.y - a.y) ≤ 10000) ∧ (-100 ≤ b.x - a.x ∧ b.x - a.x ≤ 100) ∧ (-100 ≤ b.y - a.y ∧ b.y - a.y ≤ 100) := by
  simp only [staOk, sunOk, Bool.and_eq_true, inR_true] at ha hb hs
  have h1 := mul_bd (a := s.e) (b := b.x - a.x) 100 100 (by omega) (by omega)
  have h2 := mul_bd (a := s.n) (b := b.y - a.y) 100 100 (by omega) (by omega)
  simp only [Nat.reduceMul] at h1 h2
  omega

/-- The three boxes of 'mirrors'. -/
def MirRel (w : World) (a c : Sta) (s : Sun) (v7 v8 v9 : Value) (wc : World) : Prop :=
  ∃ b7 b8 b9 : Nat, v7 = .pointer (some ⟨b7, 0, none⟩) ∧ v8 = .pointer (some ⟨b8, 0, none⟩) ∧ v9 = .pointer (some ⟨b9, 0, none⟩) ∧ Below w.heap.size w wc ∧
    CellsAt wc b7 (encSta a) ∧ CellsAt wc b8 (encSta c) ∧ CellsAt wc b9 (encSun s)

set_option maxRecDepth 100000 in
set_option maxHeartbeats 4000000 in
theorem mirrors_any (p r : Nat) (V : LV) (L : Lnd) (i j k : Nat) (a c : Sta) (s : Sun) (w : World) (h : HW w p r V L) (ok : Okay L) (hi : L.st[i]? = some a) (hj : L.st[j]? = some c) (hk : L.su[k]? = some s) :
    Calls Try.prog 102 #[.pointer (some ⟨p, 0, none⟩), .agg #[.int .i64 i, .int .i64 j], .int .i64 k] w fun e w' => e = .returned (.int .i64 (mirI a c s)) ∧ Below w.heap.size w w' := by
  obtain ⟨a0, c0, a1, c1, a2, c2, a3, c3⟩ := V
  obtain ⟨b, o, hA, e0, e1, e2, e3⟩ := h.rd.st.sta hi
  obtain ⟨b', o', hA', f0, f1, f2, f3⟩ := h.rd.st.sta hj
  obtain ⟨b2, o2, hA2, g0, g1, g2⟩ := h.rd.su.sun hk
  have p0 := h.cells 0 _ rfl
  have p3 := h.cells 3 _ rfl
  have li := (List.getElem?_eq_some_iff.1 hi).1
  have lj := (List.getElem?_eq_some_iff.1 hj).1
  have lk := (List.getElem?_eq_some_iff.1 hk).1
  have hs1 := ok.s1
  have hu1 := ok.u1
  obtain ⟨m1, m2, m3, m4⟩ := mir_bd (ok.st a (List.mem_of_getElem? hi)) (ok.st c (List.mem_of_getElem? hj)) (ok.su s (List.mem_of_getElem? hk))
  have hlp := cell_lt p0
  have hlb := cell_lt e0
  have hlb2 := cell_lt g0
  simp only at hlp hlb hlb2 hA hA' hA2 p0 p3
  subst hA
  cases hA'
  subst hA2
  clear h ok hi hj hk
  have HM : Hid (mirI a c s = if s.e * (c.x - a.x) + s.n * (c.y - a.y) < 0 then 2 else 1) := Lib.hid rfl
  go_enter Try.func102, Try.ntmps102
  go_upto_region 1 with fail
  go_cut [7, 8, 9] (fun v7 v8 v9 wc => MirRel w a c s v7 v8 v9 wc)
  case first =>
    go_region_held3 (fun W => W.cell? ⟨p, 0, none⟩ = some (.slice (some ⟨b, o, none⟩) L.st.length c0) ∧ W.cell? ⟨p, 3, none⟩ = some (.slice (some ⟨b2, o2, none⟩) L.su.length c3) ∧
        W.cell? ⟨w.heap.size, 0, none⟩ = some (.int .i64 i) ∧ W.cell? ⟨w.heap.size, 1, none⟩ = some (.int .i64 j) ∧
        W.cell? ⟨b, o + i * 4, none⟩ = some (.int .i64 a.x) ∧ W.cell? ⟨b, o + i * 4 + 1, none⟩ = some (.int .i64 a.y) ∧ W.cell? ⟨b, o + i * 4 + 2, none⟩ = some (.int .i64 a.z) ∧ W.cell? ⟨b, o + i * 4 + 3, none⟩ = some (.int .i64 a.m) ∧
        W.cell? ⟨b, o + j * 4, none⟩ = some (.int .i64 c.x) ∧ W.cell? ⟨b, o + j * 4 + 1, none⟩ = some (.int .i64 c.y) ∧ W.cell? ⟨b, o + j * 4 + 2, none⟩ = some (.int .i64 c.z) ∧ W.cell? ⟨b, o + j * 4 + 3, none⟩ = some (.int .i64 c.m) ∧
        W.cell? ⟨b2, o2 + k * 3, none⟩ = some (.int .i64 s.e) ∧ W.cell? ⟨b2, o2 + k * 3 + 1, none⟩ = some (.int .i64 s.n) ∧ W.cell? ⟨b2, o2 + k * 3 + 2, none⟩ = some (.int .i64 s.u))
      (refine ⟨(by (try go_simp); (repeat (simp only [↓IntWalk.iteOmega]; (try go_simp))); (try omega)), (by (try go_simp); (repeat (simp only [↓IntWalk.iteOmega]; (try go_simp))); (try omega)), (by (try go_simp); (repeat (simp only [↓IntWalk.iteOmega]; (try go_simp))); (try omega)), (by (try go_simp); (repeat (simp only [↓IntWalk.iteOmega]; (try go_simp))); (try omega)), (by (try go_simp); (repeat (simp only [↓IntWalk.iteOmega]; (try go_simp))); (try omega)), (by (try go_simp); (repeat (simp only [↓IntWalk.iteOmega]; (try go_simp))); (try omega)), (by (try go_simp); (repeat (simp only [↓IntWalk.iteOmega]; (try go_simp))); (try omega)), (by (try go_simp); (repeat (simp only [↓IntWalk.iteOmega]; (try go_simp))); (try omega)), (by (try go_simp); (repeat (simp only [↓IntWalk.iteOmega]; (try go_simp))); (try omega)), (by (try go_simp); (repeat (simp only [↓IntWalk.iteOmega]; (try go_simp))); (try omega)), (by (try go_simp); (repeat (simp only [↓IntWalk.iteOmega]; (try go_simp))); (try omega)), (by (try go_simp); (repeat (simp only [↓IntWalk.iteOmega]; (try go_simp))); (try omega)), (by (try go_simp); (repeat (simp only [↓IntWalk.iteOmega]; (try go_simp))); (try omega)), (by (try go_simp); (repeat (simp only [↓IntWalk.iteOmega]; (try go_simp))); (try omega)), (by (try go_simp); (repeat (simp only [↓IntWalk.iteOmega]; (try go_simp))); (try omega))⟩)
      (first | fail)
    all_goals
      go_wp2_with fail
      go_meet
    all_goals exact ⟨_, _, _, rfl, rfl, rfl, by (repeat (first | exact Below.refl _ _ | (with_reducible exact Hid.out (by assumption)) | refine below_al ?_ _ | refine below_dr ?_ | refine below_tr ?_ (by assumption) | refine below_tr ?_ (Bel.out (by assumption)) | refine below_tr ?_ (Bel.out (ov_bel _ _)) | refine below_set ?_ (by simp; try omega))), cells4 (by (try go_simp); (repeat (simp only [↓IntWalk.iteOmega]; (try go_simp))); (try omega)) (by (try go_simp); (repeat (simp only [↓IntWalk.iteOmega]; (try go_simp))); (try omega)) (by (try go_simp); (repeat (simp only [↓IntWalk.iteOmega]; (try go_simp))); (try omega)) (by (try go_simp); (repeat (simp only [↓IntWalk.iteOmega]; (try go_simp))); (try omega)), cells4 (by (try go_simp); (repeat (simp only [↓IntWalk.iteOmega]; (try go_simp))); (try omega)) (by (try go_simp); (repeat (simp only [↓IntWalk.iteOmega]; (try go_simp))); (try omega)) (by (try go_simp); (repeat (simp only [↓IntWalk.iteOmega]; (try go_simp))); (try omega)) (by (try go_simp); (repeat (simp only [↓IntWalk.iteOmega]; (try go_simp))); (try omega)), cells3 (by (try go_simp); (repeat (simp only [↓IntWalk.iteOmega]; (try go_simp))); (try omega)) (by (try go_simp); (repeat (simp only [↓IntWalk.iteOmega]; (try go_simp))); (try omega)) (by (try go_simp); (repeat (simp only [↓IntWalk.iteOmega]; (try go_simp))); (try omega))⟩
  case rest =>
    obtain ⟨b7, b8, b9, rfl, rfl, rfl, hbel, G1, G2, G3⟩ := hcut
    have x0 := G1 0 _ rfl
    have x1 := G1 1 _ rfl
    have y0 := G2 0 _ rfl
    have y1 := G2 1 _ rfl
    have z0 := G3 0 _ rfl
    have z1 := G3 1 _ rfl
    clear G1 G2 G3 e0 e1 e2 e3 f0 f1 f2 f3 g0 g1 g2 p0 p3
    replace hbel := Lib.hid hbel
    by_cases hlt : s.e * (c.x - a.x) + s.n * (c.y - a.y) < 0
    · go_wp2
      go_ret
      exact ⟨by rw [HM.out, if_pos hlt]; rfl, by (repeat (first | exact Below.refl _ _ | (with_reducible exact Hid.out (by assumption)) | refine below_al ?_ _ | refine below_dr ?_ | refine below_tr ?_ (by assumption) | refine below_tr ?_ (Bel.out (by assumption)) | refine below_tr ?_ (Bel.out (ov_bel _ _)) | refine below_set ?_ (by simp; try omega)))⟩
    · go_wp2
      go_ret
      exact ⟨by rw [HM.out, if_neg (by omega)]; rfl, by (repeat (first | exact Below.refl _ _ | (with_reducible exact Hid.out (by assumption)) | refine below_al ?_ _ | refine below_dr ?_ | refine below_tr ?_ (by assumption) | refine below_tr ?_ (Bel.out (by assumption)) | refine below_tr ?_ (Bel.out (ov_bel _ _)) | refine below_set ?_ (by simp; try omega)))⟩
end Go.Proofs.Ytdfohielnfdmkaa

/- Walks: the ridges that block between two stations (package hill). -/
set_option linter.unusedVariables false
set_option linter.unusedSimpArgs false
namespace Go.Proofs.Ytdfohielnfdmkaa
open Go.RowKit
attribute [local go_sem low] cell_alloc_ite frozen_alloc_ite

/-- The ridges before m that block. -/
def rgTo (L : Lnd) (a c : Sta) : Nat → List Int
  | 0 => []
  | m + 1 => match L.ri[m]? with
    | some r => if blocksB r a c then rgTo L a c m ++ [(m : Int)] else rgTo L a c m
    | none => rgTo L a c m
theorem rgTo_len (L : Lnd) (a c : Sta) : ∀ m, (rgTo L a c m).length ≤ m
  | 0 => Nat.le_refl _
  | m + 1 => by
    have := rgTo_len L a c m
    simp only [rgTo]
    split
    · split
      · simp; omega
      · omega
    · omega
theorem rgTo_some (L : Lnd) (a c : Sta) : ∀ m, m ≤ L.ri.length → (!(rgTo L a c m).isEmpty) = (L.ri.take m).any fun r => blocksB r a c
  | 0, _ => by simp [rgTo]
  | m + 1, h => by
    have ih := rgTo_some L a c m (by omega)
    have hm : L.ri[m]? = some L.ri[m] := List.getElem?_eq_getElem (by omega)
    rw [List.take_succ_eq_append_getElem (by omega), List.any_append]
    simp only [rgTo, hm]
    by_cases hb : blocksB L.ri[m] a c = true
    · simp [hb]
    · have hb' : blocksB L.ri[m] a c = false := by simpa using hb
      simp [hb', ← ih]
theorem rgTo_all (L : Lnd) {i j : Nat} {a c : Sta} (hi : L.st[i]? = some a) (hj : L.st[j]? = some c) : (!(rgTo L a c L.ri.length).isEmpty) = ridB L i j := by
  rw [rgTo_some L a c _ (Nat.le_refl _), List.take_length]
  unfold ridB staAt
  rw [Int.toNat_natCast, Int.toNat_natCast, getD_of hi, getD_of hj]

theorem chk_int (n : Nat) (e : Bool) (x : Int) (w : World) : (Instr.checkKey e (n + 1) 3 (.int .i64 x)).run Try.prog w = .ok () w := by
  rw [Instr.checkKey]
  simp [go_sem]
theorem pairKey : PairKey Try.prog 141 where
  eq := fun w a b c d => by
    rw [Op.equal, Op.maxDepth, show (10000 : Nat) = 9999 + 1 from rfl]
    simp [go_sem]
    by_cases h1 : a = c <;> by_cases h2 : b = d <;> simp [h1, h2]
  chk := fun w e a b => by
    rw [show (10000 : Nat) = (9998 + 1) + 1 from rfl, Instr.checkKey]
    simp [go_sem]
    rw [show (9999 : Nat) = 9998 + 1 from rfl, chk_int, Result.andThen_ok, chk_int]
  under := ⟨_, Try.underlying141⟩
theorem zeroInts (w : World) : (zeroValue 46).run Try.prog w = .ok (.slice none 0 0) w := by kernel_rfl
theorem info_int : (Try.prog.info? 3).map (fun i => (i.zero, i.size, i.bytes)) = some (some (.int .i64 0), 1, 8) := by kernel_rfl

/-- What 'ridges' gives. -/
def RidMade (r : Nat) (L : Lnd) (i j : Nat) (w : World) (e : Ending) (w' : World) : Prop :=
  ∃ v, e = .returned v ∧ RidPhi w' L i j v ∧ KeepM (fun k => k = r) w w' ∧ MapInv w' r (RidPhi w' L)

/-- The loop over the ridges: m of them seen. -/
def RgRel (w : World) (L : Lnd) (a c : Sta) (f t : Int) (i v : Value) (wr : World) : Prop :=
  ∃ m : Nat, m ≤ L.ri.length ∧ i = .int .i64 m ∧ wr.ownsRow (w.heap.size + 1) 3 1 v (rgTo L a c m).length ((rgTo L a c m).map (Value.int .i64)) ∧ Below w.heap.size w wr ∧ w.heap.size + 1 ≤ wr.heap.size ∧
    wr.cell? ⟨w.heap.size, 0, none⟩ = some (.int .i64 f) ∧ wr.cell? ⟨w.heap.size, 1, none⟩ = some (.int .i64 t)

set_option maxRecDepth 100000 in
set_option maxHeartbeats 4000000 in
theorem ridges_any (p r : Nat) (V : LV) (L : Lnd) (i j : Nat) (a c : Sta) (w : World) (h : HW w p r V L) (ok : Okay L) (hi : L.st[i]? = some a) (hj : L.st[j]? = some c) :
    Calls Try.prog 103 #[.pointer (some ⟨p, 0, none⟩), .agg #[.int .i64 i, .int .i64 j]] w (RidMade r L i j w) := by
  obtain ⟨a0, c0, a1, c1, a2, c2, a3, c3⟩ := V
  obtain ⟨v0, known, hrun, hcase⟩ := run_lookup_pair pairKey Try.underlying152 zeroInts h.map i j
  obtain ⟨b0, o0, hA0, _⟩ := h.rd.st.sta hi
  simp only at hA0
  subst hA0
  have p0 := h.cells 0 _ rfl
  have p1 := h.cells 1 _ rfl
  have p4 := h.cells 4 _ rfl
  have hlp := cell_lt p0
  have hlr := h.map.maps.lt rfl
  simp only at hlp p0 p1 p4
  have H := Lib.hid h
  have HI := Lib.hid hi
  have HJ := Lib.hid hj
  have OK := Lib.hid ok
  have li := (List.getElem?_eq_some_iff.1 hi).1
  have lj := (List.getElem?_eq_some_iff.1 hj).1
  have hs1 := ok.s1
  have hr1 := ok.r1
  have hlk : ∀ W, Bel (w.alloc (.cells #[.int .i64 i, .int .i64 j] 141)) W → (Instr.lookup 152 (.map (some r)) (.agg #[.int .i64 i, .int .i64 j]) true).run Try.prog W = .ok (.tuple #[v0, .bool known]) W := fun W hW =>
    hrun W ((hW.out.block r (by simp; omega)).trans (Below.heap_alloc _ _ _ hlr))
  clear hrun h hi hj ok
  rcases hcase with ⟨rfl, rfl⟩ | ⟨rfl, hphi⟩
  · obtain ⟨i0, hi0, hz0, hz1, hz2⟩ := info_parts info_int
    go_enter Try.func103, Try.ntmps103
    go_wp2
    (refine wp_region_bel (by kernel_rfl) (by kernel_rfl) ?_; (repeat (first | (refine BigFrame.wpQuiet_want (by rfl) (fun K hK => ?_); unfold Oper.quiet; apply Exists.intro; refine ⟨fun W hW => ?_, hK _ ?_⟩; (focus (have hc := hW.cells; have hf := hW.frozens; have hz := hW.size; (try simp at hz); (go_simp; (repeat (simp only [↓IntWalk.iteOmega]; go_simp)); (try go_bits); first | (fail) | rfl))); clear hK K; go_simp) | (refine BigFrame.wpQuiet_skip (by rfl) ?_; go_simp))); refine wpQuiet_nil ?_; intro W hW; have hc := hW.cells; have hf := hW.frozens; have hz := hW.size; (try simp at hz))
    clear hlk
    go_wp2
    have hB1 : Below w.heap.size w W := by (repeat (first | exact Below.refl _ _ | (with_reducible exact Hid.out (by assumption)) | refine below_al ?_ _ | refine below_dr ?_ | refine below_tr ?_ (by assumption) | refine below_tr ?_ (Bel.out (by assumption)) | refine below_tr ?_ (Bel.out (ov_bel _ _)) | refine below_set ?_ (by simp; try omega)))
    have f0 : W.cell? ⟨w.heap.size, 0, none⟩ = some (.int .i64 i) := (by (try go_simp); (repeat (simp only [↓IntWalk.iteOmega]; (try go_simp))); (try omega))
    have f1 : W.cell? ⟨w.heap.size, 1, none⟩ = some (.int .i64 j) := (by (try go_simp); (repeat (simp only [↓IntWalk.iteOmega]; (try go_simp))); (try omega))
    clear hc hf hW p0 p1 p4
    go_loopw [26, 5] (fun n v wr => RgRel w L a c i j n v wr) (fun n _ _ => L.ri.length - (intOf n).toNat)
    case atStart => exact ⟨0, Nat.zero_le _, rfl, World.ownsRow_nil _ _ _ _, hB1, hz, f0, f1⟩
    case round =>
      clear f0 f1 hB1 hz
      obtain ⟨m, hm, rfl, hown, HB, hz, f0, f1⟩ := hrel
      replace HB := Lib.hid HB
      have hk := kept_of_below HB.out
      have p0 := H.out.cells.kept hk 0 _ rfl
      have p1 := H.out.cells.kept hk 1 _ rfl
      have p4 := H.out.cells.kept hk 4 _ rfl
      obtain ⟨b1, o1, hA1, s0, s1, s2, s3⟩ := (H.out.rd.st.kept hk).sta HI.out
      cases hA1
      obtain ⟨b1, o1, hA1, t0, t1, t2, t3⟩ := (H.out.rd.st.kept hk).sta HJ.out
      cases hA1
      have hls := cell_lt s0
      have hlt2 := cell_lt t0
      simp only at p0 p1 p4 hls hlt2
      by_cases hlt : m < L.ri.length
      · have hx := List.getElem?_eq_getElem hlt
        obtain ⟨b2, o2, hA2, e0, e1, e2, e3, e4, e5⟩ := (H.out.rd.ri.kept hk).wal hx
        have hok := OK.out.ri _ (List.mem_of_getElem? hx)
        generalize L.ri[m] = x at *
        simp only at hA2
        subst hA2
        have HX := Lib.hid hx
        clear hx hk
        obtain ⟨x1, y1, x2, y2, xb, xt⟩ := x
        simp only at e0 e1 e2 e3 e4 e5
        simp only [ridOk, Bool.and_eq_true] at hok
        have HC := Lib.hid (fun W => blocks_any x1 y1 x2 y2 xb xt a.x a.y a.z a.m c.x c.y c.z c.m W hok.1 (OK.out.st a (List.mem_of_getElem? HI.out)) (OK.out.st c (List.mem_of_getElem? HJ.out)))
        clear hok
        cases hbl : blocksB ⟨x1, y1, x2, y2, xb, xt⟩ a c with
        | true =>
          simp only [show (⟨a.x, a.y, a.z, a.m⟩ : Sta) = a from rfl, show (⟨c.x, c.y, c.z, c.m⟩ : Sta) = c from rfl, hbl] at HC
          go_wp2
          (refine wp_region_bel (by kernel_rfl) (by kernel_rfl) ?_; (repeat (first | (refine BigFrame.wpQuiet_want (by rfl) (fun K hK => ?_); unfold Oper.quiet; apply Exists.intro; refine ⟨fun W hW => ?_, hK _ ?_⟩; (focus (have hc := hW.cells; have hf := hW.frozens; have hz := hW.size; (try simp at hz); (go_simp; (repeat (simp only [↓IntWalk.iteOmega]; go_simp)); (try go_bits); first | ((go_at_call 106; exact calls_bel hW (HC.out _))) | rfl))); clear hK K; go_simp) | (refine BigFrame.wpQuiet_skip (by rfl) ?_; go_simp))); refine wpQuiet_nil ?_; intro W hW; have hc := hW.cells; have hf := hW.frozens; have hz := hW.size; (try simp at hz))
          have hown' := owns_below hown (show Below wr.heap.size wr W by (repeat (first | exact Below.refl _ _ | (with_reducible exact Hid.out (by assumption)) | refine below_al ?_ _ | refine below_dr ?_ | refine below_tr ?_ (by assumption) | refine below_tr ?_ (Bel.out (by assumption)) | refine below_tr ?_ (Bel.out (ov_bel _ _)) | refine below_set ?_ (by simp; try omega))))
          go_wp2_with (at_builtin; refine wpList_append_own _ rfl _ _ 46 rfl (w.heap.size + 1) 3 i0 (.int .i64 0) 1 8 Try.underlying46 hi0 hz0 hz1 hz2 rfl (by decide) _ _ _ rfl (hown'.alloc _) ⟨W.heap.size, 0, none⟩ 1 1 [.int .i64 m] rfl rfl ?c1 ?c2 ?c3 ?c4 ?c5 ?_)
          case c1 => exact cell_one_new _ _ _
          case c2 => simp [Value.oneCell']
          case c3 => have := rgTo_len L a c m; unfold maxLen; omega
          case c4 => have := rgTo_len L a c m; omega
          case c5 => simp; omega
          intro v' w1 hown1 hgrow _
          have hlo := hown.lt
          have hB3 : Below w.heap.size w w1 := Below.grown (w := W.alloc (.cells #[.int .i64 m] 3)) (by (repeat (first | exact Below.refl _ _ | (with_reducible exact Hid.out (by assumption)) | refine below_al ?_ _ | refine below_dr ?_ | refine below_tr ?_ (by assumption) | refine below_tr ?_ (Bel.out (by assumption)) | refine below_tr ?_ (Bel.out (ov_bel _ _)) | refine below_set ?_ (by simp; try omega)))) hgrow (by simp; omega) (fun k hk => by have := (hlo k hk).1; omega)
          have hz3 := hgrow.size
          have f03 : w1.cell? ⟨w.heap.size, 0, none⟩ = some (.int .i64 i) := hgrow.cell (by (try go_simp); (repeat (simp only [↓IntWalk.iteOmega]; (try go_simp))); (try omega)) (fun e => by have := (hlo _ e.symm).1; simp at this; omega)
          have f13 : w1.cell? ⟨w.heap.size, 1, none⟩ = some (.int .i64 j) := hgrow.cell (by (try go_simp); (repeat (simp only [↓IntWalk.iteOmega]; (try go_simp))); (try omega)) (fun e => by have := (hlo _ e.symm).1; simp at this; omega)
          replace hB3 := Lib.hid hB3
          replace hown1 := Lib.hid hown1
          clear hgrow hc hf hW hown' hown hlo
          simp at hz3
          go_wp2
          go_roundw
          case rel => exact ⟨m + 1, by omega, by go_num, by simp only [rgTo, HX.out, hbl, if_true, List.length_append, List.length_singleton, List.map_append, List.map_cons, List.map_nil]; exact hown1.out, hB3.out, by omega, f03, f13⟩
          case measure => simp [intOf]; omega
        | false =>
          simp only [show (⟨a.x, a.y, a.z, a.m⟩ : Sta) = a from rfl, show (⟨c.x, c.y, c.z, c.m⟩ : Sta) = c from rfl, hbl] at HC
          go_wp2
          (refine wp_region_bel (by kernel_rfl) (by kernel_rfl) ?_; (repeat (first | (refine BigFrame.wpQuiet_want (by rfl) (fun K hK => ?_); unfold Oper.quiet; apply Exists.intro; refine ⟨fun W hW => ?_, hK _ ?_⟩; (focus (have hc := hW.cells; have hf := hW.frozens; have hz := hW.size; (try simp at hz); (go_simp; (repeat (simp only [↓IntWalk.iteOmega]; go_simp)); (try go_bits); first | ((go_at_call 106; exact calls_bel hW (HC.out _))) | rfl))); clear hK K; go_simp) | (refine BigFrame.wpQuiet_skip (by rfl) ?_; go_simp))); refine wpQuiet_nil ?_; intro W hW; have hc := hW.cells; have hf := hW.frozens; have hz := hW.size; (try simp at hz))
          go_wp2
          go_roundw
          case rel => exact ⟨m + 1, by omega, by go_num, by simp only [rgTo, HX.out, hbl]; exact owns_below hown (by (repeat (first | exact Below.refl _ _ | (with_reducible exact Hid.out (by assumption)) | refine below_al ?_ _ | refine below_dr ?_ | refine below_tr ?_ (by assumption) | refine below_tr ?_ (Bel.out (by assumption)) | refine below_tr ?_ (Bel.out (ov_bel _ _)) | refine below_set ?_ (by simp; try omega)))), by (repeat (first | exact Below.refl _ _ | (with_reducible exact Hid.out (by assumption)) | refine below_al ?_ _ | refine below_dr ?_ | refine below_tr ?_ (by assumption) | refine below_tr ?_ (Bel.out (by assumption)) | refine below_tr ?_ (Bel.out (ov_bel _ _)) | refine below_set ?_ (by simp; try omega))), by omega, (by (try go_simp); (repeat (simp only [↓IntWalk.iteOmega]; (try go_simp))); (try omega)), (by (try go_simp); (repeat (simp only [↓IntWalk.iteOmega]; (try go_simp))); (try omega))⟩
          case measure => simp [intOf]; omega
      · have hmm : m = L.ri.length := by omega
        obtain ⟨A, cc, hv, hrow, _, _⟩ := row_of_ints hown
        have hphi : RidPhi wr L i j u5 := ⟨A, cc, rgTo L a c m, hv, hrow, by have := rgTo_len L a c m; omega, by rw [hmm]; exact rgTo_all L HI.out HJ.out⟩
        have hinv : MapInv wr.drew r (RidPhi wr.drew L) := ((H.out.below HB.out).map).mono rfl (fun _ _ _ q => q.kept (kept_of_below (Below.refl _ _).drew))
        obtain ⟨es, ck, hup, hinv2⟩ := run_update_pair pairKey Try.underlying152 hinv i j u5 (hphi.kept (kept_of_below (Below.refl _ _).drew))
        replace hinv := Lib.hid hinv
        replace hinv2 := Lib.hid hinv2
        replace hphi := Lib.hid hphi
        clear hrow hv
        go_wp2
        go_region
        go_wp2
        go_ret
        have hm1 : MapsOf (fun k => k = r) wr.drew := hinv.out.maps
        have hk1 : KeepM (fun k => k = r) wr.drew (setO wr.drew r (.map es ck)) := KeepM.setO hm1 rfl
        have hk2 : KeepM (fun k => k = r) w (setO wr.drew r (.map es ck)) := (KeepM.of_below H.out.map.maps (below_dr HB.out)).trans hk1
        exact ⟨_, rfl, (hphi.out.kept (kept_of_below (Below.refl _ _).drew)).kept hk1.kept, hk2, hinv2.out.mono rfl (fun _ _ _ q => q.kept hk1.kept)⟩
  · replace hphi := Lib.hid hphi
    go_enter Try.func103, Try.ntmps103
    go_wp2
    (refine wp_region_bel (by kernel_rfl) (by kernel_rfl) ?_; (repeat (first | (refine BigFrame.wpQuiet_want (by rfl) (fun K hK => ?_); unfold Oper.quiet; apply Exists.intro; refine ⟨fun W hW => ?_, hK _ ?_⟩; (focus (have hc := hW.cells; have hf := hW.frozens; have hz := hW.size; (try simp at hz); (go_simp; (repeat (simp only [↓IntWalk.iteOmega]; go_simp)); (try go_bits); first | (fail) | rfl))); clear hK K; go_simp) | (refine BigFrame.wpQuiet_skip (by rfl) ?_; go_simp))); refine wpQuiet_nil ?_; intro W hW; have hc := hW.cells; have hf := hW.frozens; have hz := hW.size; (try simp at hz))
    go_wp2
    go_ret
    have hB : Below w.heap.size w W := by (repeat (first | exact Below.refl _ _ | (with_reducible exact Hid.out (by assumption)) | refine below_al ?_ _ | refine below_dr ?_ | refine below_tr ?_ (by assumption) | refine below_tr ?_ (Bel.out (by assumption)) | refine below_tr ?_ (Bel.out (ov_bel _ _)) | refine below_set ?_ (by simp; try omega)))
    exact ⟨v0, rfl, hphi.out.kept (kept_of_below hB), .of_below H.out.map.maps hB, (H.out.below hB).map⟩
end Go.Proofs.Ytdfohielnfdmkaa

