/- Part KA of the proof: D · W1 · All · W2 · W3. -/
import Derived.WalkKit
import Derived.Deep.QuietTactic
import Derived.BigQuiet
import Derived.Test.YtdfohielnfdmkaaProg
import Derived.WalkSpells
import Derived.WalkLawsBesides
import Derived.Lib.Hide
import Derived.Laws.EntriesVeiled
set_option linter.unusedVariables false
set_option linter.unusedSimpArgs false
/- Plain data of a land, how it lies in memory, and what is valid: no program in sight. Given thin lists; nothing else is assumed. -/
namespace Go.Proofs.Ytdfohielnfdmkaa
open Go.RowKit

structure Sta where
  x : Int
  y : Int
  z : Int
  m : Int
structure Wal where
  x1 : Int
  y1 : Int
  x2 : Int
  y2 : Int
  b : Int
  t : Int
structure Clo where
  w : Wal
  f : Int
  t : Int
structure Sun where
  e : Int
  n : Int
  u : Int
structure Lnd where
  st : List Sta
  ri : List Wal
  ca : List (List Clo)
  su : List Sun

def encSta (s : Sta) : List Value := [.int .i64 s.x, .int .i64 s.y, .int .i64 s.z, .int .i64 s.m]
def encWal (s : Wal) : List Value := [.int .i64 s.x1, .int .i64 s.y1, .int .i64 s.x2, .int .i64 s.y2, .int .i64 s.b, .int .i64 s.t]
def encClo (s : Clo) : List Value := [.int .i64 s.w.x1, .int .i64 s.w.y1, .int .i64 s.w.x2, .int .i64 s.w.y2, .int .i64 s.w.b, .int .i64 s.w.t, .int .i64 s.f, .int .i64 s.t]
def encSun (s : Sun) : List Value := [.int .i64 s.e, .int .i64 s.n, .int .i64 s.u]
def encInt (n : Int) : List Value := [.int .i64 n]

/-- Every cell reads as it did. -/
def Kept (w w' : World) : Prop := ∀ (a : Addr) (v : Value), w.cell? a = some v → w'.cell? a = some v
theorem Kept.refl (w : World) : Kept w w := fun _ _ h => h
theorem Kept.trans {a b c : World} (h : Kept a b) (k : Kept b c) : Kept a c := fun p v hv => k p v (h p v hv)
theorem cell_lt {w : World} {a : Addr} {v : Value} (h : w.cell? a = some v) : a.block < w.heap.size := by
  unfold World.cell? at h
  by_cases hlt : a.block < w.heap.size
  · exact hlt
  · rw [Array.getElem?_eq_none (by omega)] at h; cases h
theorem kept_of_below {w w' : World} (h : Below w.heap.size w w') : Kept w w' := fun a _ hv => (h.cell (p := a) (cell_lt hv)).trans hv

/-- What a new block's cell holds, behind a name. -/
def newCell (w : World) (b o : Nat) : Option Value := w.cell? ⟨b, o, none⟩
def newFrozen (w : World) (b o : Nat) : Bool := w.frozen? ⟨b, o, none⟩
theorem bcell {W w1 : World} (hb : Below W.heap.size W w1) : (∀ b o, w1.cell? ⟨b, o, none⟩ = if b < W.heap.size then W.cell? ⟨b, o, none⟩ else newCell w1 b o) ∧ (∀ b o, w1.frozen? ⟨b, o, none⟩ = if b < W.heap.size then W.frozen? ⟨b, o, none⟩ else newFrozen w1 b o) := by
  refine ⟨fun b o => ?_, fun b o => ?_⟩
  · split
    · rename_i h; exact hb.cell (p := ⟨b, o, none⟩) h
    · rfl
  · split
    · rename_i h; exact hb.frozen (p := ⟨b, o, none⟩) h
    · rfl
theorem cell_alloc_ite (w : World) (c : Array Value) (t : TypeId) (n i : Nat) : (w.alloc (.cells c t)).cell? ⟨n, i, none⟩ = if n = w.heap.size then c[i]? else w.cell? ⟨n, i, none⟩ := by
  split
  · rename_i h; exact World.cell?_alloc_at (w := w) c t n i h
  · rename_i h; exact World.cell?_alloc_old w _ _ h
theorem frozen_alloc_ite (w : World) (c : Array Value) (t : TypeId) (n i : Nat) : (w.alloc (.cells c t)).frozen? ⟨n, i, none⟩ = if n = w.heap.size then false else w.frozen? ⟨n, i, none⟩ := by
  split
  · rename_i h; exact World.frozen?_alloc_at (w := w) c t n i h
  · rename_i h; exact World.frozen?_alloc_old w _ _ h
theorem below_tr {w a b : World} (h : Below w.heap.size w a) (k : Below a.heap.size a b) : Below w.heap.size w b := h.trans (k.mono h.size)
theorem below_al {w a : World} (h : Below w.heap.size w a) (o : Obj) : Below w.heap.size w (a.alloc o) := h.alloc h.size o
theorem below_dr {w a : World} (h : Below w.heap.size w a) : Below w.heap.size w a.drew := h.drew
theorem below_set {w a : World} (h : Below w.heap.size w a) {p : Addr} (hp : w.heap.size ≤ p.block) {u : Value} : Below w.heap.size w (a.setCell p u) := h.setCell hp u

/-- A region that draws its order, whose operations read and whose calls make memory of their own alone: walked once, in the order of the text. -/
theorem wp_region_quietB {P : Program} {id : Nat} {Q : Exit → Act → World → Prop} {a : Act} {w : World} {l : List Oper} (hm : P.follows .mixedOrders = true) (hB : Region.lexB .any l.toArray = true)
    (h : wpQuiet P l.toArray (fun w' => Below w.heap.size w w') (fun a' => ∀ w', Below w.heap.size w w' → Q .normal a' w') l a) : (Code.region id l.toArray true).wp P Q a w :=
  wp_region_quiet (C := fun w' => Below w.heap.size w w') hm hB ((Below.refl _ w).drew) (by simpa using h)
theorem quiet_mk {P : Program} {o : Oper} {a : Act} {C : World → Prop} {K : Act → Prop} {v : Value} (h1 : ∀ w, C w → o.quietAt P a C w v) (h2 : K (a.put o.dst v)) : o.quiet P a C K := ⟨v, h1, h2⟩
theorem calls_quietB {P : Program} {f : FuncId} {args : Array Value} {w W : World} {v : Value} (hW : Below w.heap.size w W)
    (h : Calls P f args W fun e w' => e = .returned v ∧ Below W.heap.size W w') : Calls P f args W fun e w' => e = .returned v ∧ Below w.heap.size w w' :=
  h.mono fun _ _ ⟨he, hb⟩ => ⟨he, below_tr hW hb⟩

/-- The first place at which p holds, or -1. -/
def idxF {α : Type} (p : α → Bool) : List α → Int
  | [] => -1
  | x :: xs => if p x then 0 else if idxF p xs < 0 then -1 else idxF p xs + 1
theorem idxF_any {α : Type} (p : α → Bool) (xs : List α) : decide (0 ≤ idxF p xs) = xs.any p ∧ (idxF p xs < 0 → idxF p xs = -1) := by
  induction xs with
  | nil => simp [idxF]
  | cons x xs ih =>
    obtain ⟨h1, h2⟩ := ih
    simp only [idxF, List.any_cons]
    by_cases hp : p x = true
    · simp [hp]
    · have hp' : p x = false := by simpa using hp
      simp only [hp', Bool.false_eq_true, if_false, Bool.false_or, ← h1]
      by_cases hn : idxF p xs < 0
      · simp only [hn, if_true]; exact ⟨by simp; omega, fun _ => trivial⟩
      · simp only [hn, if_false]; exact ⟨by simp; omega, fun h => by omega⟩
theorem idxF_at {α : Type} (p : α → Bool) : ∀ (xs : List α) (k : Nat) (x : α), xs[k]? = some x → p x = true → (∀ (j : Nat) (y : α), j < k → xs[j]? = some y → p y = false) → idxF p xs = k := by
  intro xs
  induction xs with
  | nil => intro k x h; simp at h
  | cons a xs ih =>
    intro k x h hp hno
    cases k with
    | zero => simp at h; subst h; simp [idxF, hp]
    | succ k =>
      have ha := hno 0 a (by omega) (by simp)
      have := ih k x (by simpa using h) hp (fun j y hj hy => hno (j + 1) y (by omega) (by simpa using hy))
      simp only [idxF, ha, this]
      rw [if_neg (by simp), if_neg (by omega)]; omega
theorem idxF_none {α : Type} (p : α → Bool) : ∀ (xs : List α), (∀ (j : Nat) (y : α), xs[j]? = some y → p y = false) → idxF p xs = -1 := by
  intro xs
  induction xs with
  | nil => intro _; rfl
  | cons a xs ih =>
    intro hno
    have ha := hno 0 a (by simp)
    have := ih (fun j y hy => hno (j + 1) y (by simpa using hy))
    simp [idxF, ha, this]

/-- A row of elements of k cells each. -/
def RowAt {α : Type} (w : World) (A : Option Addr) (k : Nat) (enc : α → List Value) (xs : List α) : Prop :=
  ∀ i x, xs[i]? = some x → ∃ b o, A = some ⟨b, o, none⟩ ∧ ∀ j v, (enc x)[j]? = some v → w.cell? ⟨b, o + i * k + j, none⟩ = some v
theorem RowAt.kept {α : Type} {w w' : World} {A : Option Addr} {k : Nat} {enc : α → List Value} {xs : List α} (h : RowAt w A k enc xs) (hk : Kept w w') : RowAt w' A k enc xs := by
  intro i x hx
  obtain ⟨b, o, hA, hc⟩ := h i x hx
  exact ⟨b, o, hA, fun j v hv => hk _ _ (hc j v hv)⟩
theorem RowAt.nil {α : Type} (w : World) (A : Option Addr) (k : Nat) (enc : α → List Value) : RowAt w A k enc [] := fun i x h => by simp at h
theorem RowAt.take {α : Type} {w : World} {A : Option Addr} {k : Nat} {enc : α → List Value} {xs : List α} (h : RowAt w A k enc xs) (n : Nat) : RowAt w A k enc (xs.take n) := by
  intro i x hx
  rw [List.getElem?_take] at hx
  split at hx
  · exact h i x hx
  · cases hx

theorem RowAt.sta {w : World} {A : Option Addr} {xs : List Sta} (h : RowAt w A 4 encSta xs) {i : Nat} {x : Sta} (hx : xs[i]? = some x) : ∃ b o, A = some ⟨b, o, none⟩ ∧ w.cell? ⟨b, o + i * 4, none⟩ = some (.int .i64 x.x) ∧ w.cell? ⟨b, o + i * 4 + 1, none⟩ = some (.int .i64 x.y) ∧ w.cell? ⟨b, o + i * 4 + 2, none⟩ = some (.int .i64 x.z) ∧ w.cell? ⟨b, o + i * 4 + 3, none⟩ = some (.int .i64 x.m) := by
  obtain ⟨b, o, hA, hc⟩ := h i x hx
  exact ⟨b, o, hA, hc 0 _ rfl, hc 1 _ rfl, hc 2 _ rfl, hc 3 _ rfl⟩
theorem RowAt.wal {w : World} {A : Option Addr} {xs : List Wal} (h : RowAt w A 6 encWal xs) {i : Nat} {x : Wal} (hx : xs[i]? = some x) : ∃ b o, A = some ⟨b, o, none⟩ ∧ w.cell? ⟨b, o + i * 6, none⟩ = some (.int .i64 x.x1) ∧ w.cell? ⟨b, o + i * 6 + 1, none⟩ = some (.int .i64 x.y1) ∧ w.cell? ⟨b, o + i * 6 + 2, none⟩ = some (.int .i64 x.x2) ∧ w.cell? ⟨b, o + i * 6 + 3, none⟩ = some (.int .i64 x.y2) ∧ w.cell? ⟨b, o + i * 6 + 4, none⟩ = some (.int .i64 x.b) ∧ w.cell? ⟨b, o + i * 6 + 5, none⟩ = some (.int .i64 x.t) := by
  obtain ⟨b, o, hA, hc⟩ := h i x hx
  exact ⟨b, o, hA, hc 0 _ rfl, hc 1 _ rfl, hc 2 _ rfl, hc 3 _ rfl, hc 4 _ rfl, hc 5 _ rfl⟩
theorem RowAt.clo {w : World} {A : Option Addr} {xs : List Clo} (h : RowAt w A 8 encClo xs) {i : Nat} {x : Clo} (hx : xs[i]? = some x) : ∃ b o, A = some ⟨b, o, none⟩ ∧ w.cell? ⟨b, o + i * 8, none⟩ = some (.int .i64 x.w.x1) ∧ w.cell? ⟨b, o + i * 8 + 1, none⟩ = some (.int .i64 x.w.y1) ∧ w.cell? ⟨b, o + i * 8 + 2, none⟩ = some (.int .i64 x.w.x2) ∧ w.cell? ⟨b, o + i * 8 + 3, none⟩ = some (.int .i64 x.w.y2) ∧ w.cell? ⟨b, o + i * 8 + 4, none⟩ = some (.int .i64 x.w.b) ∧ w.cell? ⟨b, o + i * 8 + 5, none⟩ = some (.int .i64 x.w.t) ∧ w.cell? ⟨b, o + i * 8 + 6, none⟩ = some (.int .i64 x.f) ∧ w.cell? ⟨b, o + i * 8 + 7, none⟩ = some (.int .i64 x.t) := by
  obtain ⟨b, o, hA, hc⟩ := h i x hx
  exact ⟨b, o, hA, hc 0 _ rfl, hc 1 _ rfl, hc 2 _ rfl, hc 3 _ rfl, hc 4 _ rfl, hc 5 _ rfl, hc 6 _ rfl, hc 7 _ rfl⟩
theorem RowAt.sun {w : World} {A : Option Addr} {xs : List Sun} (h : RowAt w A 3 encSun xs) {i : Nat} {x : Sun} (hx : xs[i]? = some x) : ∃ b o, A = some ⟨b, o, none⟩ ∧ w.cell? ⟨b, o + i * 3, none⟩ = some (.int .i64 x.e) ∧ w.cell? ⟨b, o + i * 3 + 1, none⟩ = some (.int .i64 x.n) ∧ w.cell? ⟨b, o + i * 3 + 2, none⟩ = some (.int .i64 x.u) := by
  obtain ⟨b, o, hA, hc⟩ := h i x hx
  exact ⟨b, o, hA, hc 0 _ rfl, hc 1 _ rfl, hc 2 _ rfl⟩
theorem RowAt.num {w : World} {A : Option Addr} {xs : List Int} (h : RowAt w A 1 encInt xs) {i : Nat} {x : Int} (hx : xs[i]? = some x) : ∃ b o, A = some ⟨b, o, none⟩ ∧ w.cell? ⟨b, o + i, none⟩ = some (.int .i64 x) := by
  obtain ⟨b, o, hA, hc⟩ := h i x hx
  exact ⟨b, o, hA, by have := hc 0 _ rfl; rwa [Nat.mul_one] at this⟩

theorem rowInts1 {w : World} {b : Nat} {x : Int} (h0 : w.cell? ⟨b, 0, none⟩ = some (.int .i64 x)) : RowAt w (some ⟨b, 0, none⟩) 1 encInt [x] := by
  intro i y hy
  match i, hy with
  | 0, hy => cases hy; exact ⟨b, 0, rfl, fun j v hv => by match j, hv with | 0, hv => cases hv; exact h0⟩
theorem rowInts2 {w : World} {b : Nat} {x y : Int} (h0 : w.cell? ⟨b, 0, none⟩ = some (.int .i64 x)) (h1 : w.cell? ⟨b, 1, none⟩ = some (.int .i64 y)) : RowAt w (some ⟨b, 0, none⟩) 1 encInt [x, y] := by
  intro i z hz
  match i, hz with
  | 0, hz => cases hz; exact ⟨b, 0, rfl, fun j v hv => by match j, hv with | 0, hv => cases hv; exact h0⟩
  | 1, hz => cases hz; exact ⟨b, 0, rfl, fun j v hv => by match j, hv with | 0, hv => cases hv; exact h1⟩
theorem rowInts3 {w : World} {b : Nat} {x y z : Int} (h0 : w.cell? ⟨b, 0, none⟩ = some (.int .i64 x)) (h1 : w.cell? ⟨b, 1, none⟩ = some (.int .i64 y)) (h2 : w.cell? ⟨b, 2, none⟩ = some (.int .i64 z)) : RowAt w (some ⟨b, 0, none⟩) 1 encInt [x, y, z] := by
  intro i u hu
  match i, hu with
  | 0, hu => cases hu; exact ⟨b, 0, rfl, fun j v hv => by match j, hv with | 0, hv => cases hv; exact h0⟩
  | 1, hu => cases hu; exact ⟨b, 0, rfl, fun j v hv => by match j, hv with | 0, hv => cases hv; exact h1⟩
  | 2, hu => cases hu; exact ⟨b, 0, rfl, fun j v hv => by match j, hv with | 0, hv => cases hv; exact h2⟩

/-- A row of slices of clouds. -/
def CasesAt (w : World) (A : Option Addr) (cs : List (List Clo)) : Prop :=
  ∀ i l, cs[i]? = some l → ∃ b o A' c', A = some ⟨b, o, none⟩ ∧ w.cell? ⟨b, o + i, none⟩ = some (.slice A' l.length c') ∧ l.length ≤ c' ∧ l.length ≤ 7 ∧ RowAt w A' 8 encClo l
theorem CasesAt.kept {w w' : World} {A : Option Addr} {cs : List (List Clo)} (h : CasesAt w A cs) (hk : Kept w w') : CasesAt w' A cs := by
  intro i l hl
  obtain ⟨b, o, A', c', hA, hc, h1, h2, hr⟩ := h i l hl
  exact ⟨b, o, A', c', hA, hk _ _ hc, h1, h2, hr.kept hk⟩

/-- The four slices of a land. -/
structure LV where
  a0 : Option Addr
  c0 : Nat
  a1 : Option Addr
  c1 : Nat
  a2 : Option Addr
  c2 : Nat
  a3 : Option Addr
  c3 : Nat

/-- A land as it lies in memory. -/
structure RdL (w : World) (V : LV) (L : Lnd) : Prop where
  st : RowAt w V.a0 4 encSta L.st
  ri : RowAt w V.a1 6 encWal L.ri
  ca : CasesAt w V.a2 L.ca
  su : RowAt w V.a3 3 encSun L.su
  l0 : L.st.length ≤ 9
  l1 : L.ri.length ≤ 9
  l2 : L.ca.length ≤ 9
  l3 : L.su.length ≤ 15
  k0 : L.st.length ≤ V.c0
  k1 : L.ri.length ≤ V.c1
  k2 : L.ca.length ≤ V.c2
  k3 : L.su.length ≤ V.c3
theorem RdL.kept {w w' : World} {V : LV} {L : Lnd} (h : RdL w V L) (hk : Kept w w') : RdL w' V L :=
  ⟨h.st.kept hk, h.ri.kept hk, h.ca.kept hk, h.su.kept hk, h.l0, h.l1, h.l2, h.l3, h.k0, h.k1, h.k2, h.k3⟩
theorem RdL.below {w w' : World} {V : LV} {L : Lnd} (h : RdL w V L) (hb : Below w.heap.size w w') : RdL w' V L := h.kept (kept_of_below hb)

abbrev vLnd (V : LV) (L : Lnd) : Value := .agg #[.slice V.a0 L.st.length V.c0, .slice V.a1 L.ri.length V.c1, .slice V.a2 L.ca.length V.c2, .slice V.a3 L.su.length V.c3]

def inR (n lo hi : Int) : Bool := decide (lo ≤ n) && decide (n ≤ hi)
theorem inR_true {n lo hi : Int} : inR n lo hi = true ↔ lo ≤ n ∧ n ≤ hi := by simp [inR]
def staOk (s : Sta) : Bool := inR s.x 0 100 && inR s.y 0 100 && inR s.z 0 1000 && inR s.m 1 2
def onMap (x y : Int) : Bool := inR x 0 100 && inR y 0 100
def walOk (s : Wal) : Bool := onMap s.x1 s.y1 && onMap s.x2 s.y2 && !(decide (s.x1 = s.x2) && decide (s.y1 = s.y2)) && inR s.b 0 s.t && decide (s.t ≤ 1000)
def ridOk (s : Wal) : Bool := walOk s && decide (s.b = 0)
def cloOk (E : Nat) (s : Clo) : Bool := walOk s.w && inR s.f 0 s.t && decide (s.t < (E : Int))
def sunOk (s : Sun) : Bool := inR s.e (-100) 100 && inR s.n (-100) 100 && inR s.u (-100) 100
def sameAt (s t : Sta) : Bool := decide (s.x = t.x) && decide (s.y = t.y)
/-- No two stations have the same place. -/
def sta0 : Sta := ⟨0, 0, 0, 0⟩
def apart (l : List Sta) : Bool := (List.range l.length).all fun i => (List.range i).all fun k => !sameAt (l.getD k sta0) (l.getD i sta0)
def limL (L : Lnd) : Bool := decide (6 < L.st.length) || decide (6 < L.ri.length) || decide (4 < L.ca.length) || decide (12 < L.su.length) || L.ca.any fun k => decide (4 < k.length)
def badL (L : Lnd) : Bool := decide (L.st.length = 0) || decide (L.ca.length = 0) || decide (L.su.length = 0) || !L.st.all staOk || !apart L.st || !L.ri.all ridOk || !(L.ca.all fun k => k.all (cloOk L.su.length)) || !L.su.all sunOk
/-- The error of a land. -/
def faultL (L : Lnd) : Int := if limL L then 3 else if badL L then 1 else 0
end Go.Proofs.Ytdfohielnfdmkaa

/- Walks: places, stations, walls, suns and clouds of package hill: what is valid. -/
set_option linter.unusedVariables false
set_option linter.unusedSimpArgs false
namespace Go.Proofs.Ytdfohielnfdmkaa
open Go.RowKit
attribute [local go_sem low] cell_alloc_ite frozen_alloc_ite

set_option maxHeartbeats 400000 in
theorem within_any (a b c : Int) (w : World) :
    Calls Try.prog 74 #[.int .i64 a, .int .i64 b, .int .i64 c] w fun e w' => e = .returned (.bool (inR a b c)) ∧ w = w' := by
  by_cases h : b ≤ a
  · go_enter Try.func74, Try.ntmps74
    go_wp2
    go_ret
    exact ⟨by simp [h, inR], rfl⟩
  · have h2 : inR a b c = false := by simp [inR, h]
    have H := Lib.hid h2
    clear h2
    go_enter Try.func74, Try.ntmps74
    go_wp2
    go_ret
    exact ⟨by rw [H.out]; rfl, rfl⟩

set_option maxHeartbeats 400000 in
theorem rwithin_any (a b c : Int) (w : World) :
    Calls Try.prog 41 #[.int .i64 a, .int .i64 b, .int .i64 c] w fun e w' => e = .returned (.bool (inR a b c)) ∧ w = w' := by
  by_cases h : b ≤ a
  · go_enter Try.func41, Try.ntmps41
    go_wp2
    go_ret
    exact ⟨by simp [h, inR], rfl⟩
  · have h2 : inR a b c = false := by simp [inR, h]
    have H := Lib.hid h2
    clear h2
    go_enter Try.func41, Try.ntmps41
    go_wp2
    go_ret
    exact ⟨by rw [H.out]; rfl, rfl⟩

set_option maxHeartbeats 400000 in
theorem side_any (p0 p1 q0 q1 x0 x1 : Int) (w : World)  :
    Calls Try.prog 108 #[.agg #[.int .i64 p0, .int .i64 p1], .agg #[.int .i64 q0, .int .i64 q1], .agg #[.int .i64 x0, .int .i64 x1]] w
      fun e w' => e = .returned (.int .i64 (wrap64 (wrap64 (wrap64 (q0 - p0) * wrap64 (x1 - p1)) - wrap64 (wrap64 (q1 - p1) * wrap64 (x0 - p0))))) ∧ Below w.heap.size w w' := by
  go_enter Try.func108, Try.ntmps108
  go_wp2
  go_ret
  exact ⟨rfl, ((((Below.refl _ _).alloc (Nat.le_refl _) _).alloc (by simp) _).alloc (by simp; omega) _)⟩

set_option maxHeartbeats 400000 in
theorem on_any (x y : Int) (w : World) :
    Calls Try.prog 82 #[.agg #[.int .i64 x, .int .i64 y]] w fun e w' => e = .returned (.bool (onMap x y)) ∧ Below w.heap.size w w' := by
  by_cases h : inR x 0 100 = true
  · go_enter Try.func82, Try.ntmps82
    go_wp2_with (go_at_call 74; refine (within_any _ _ _ _).mono ?_; rintro e w' ⟨rfl, rfl⟩)
    go_ret
    exact ⟨by simp [onMap, h], (Below.refl _ _).alloc (Nat.le_refl _) _⟩
  · have h' : inR x 0 100 = false := by simpa using h
    clear h
    go_enter Try.func82, Try.ntmps82
    go_wp2_with (go_at_call 74; refine (within_any _ _ _ _).mono ?_; rintro e w' ⟨rfl, rfl⟩)
    go_ret
    exact ⟨by simp [onMap, h'], (Below.refl _ _).alloc (Nat.le_refl _) _⟩

set_option maxHeartbeats 400000 in
theorem place_any (x y z m : Int) (w : World) :
    Calls Try.prog 81 #[.agg #[.int .i64 x, .int .i64 y, .int .i64 z, .int .i64 m]] w fun e w' => e = .returned (.agg #[.int .i64 x, .int .i64 y]) ∧ Below w.heap.size w w' := by
  go_enter Try.func81, Try.ntmps81
  go_wp2
  refine bodyPost_ret (v := .agg #[.int .i64 x, .int .i64 y]) (by simp [results, Try.results81, go_sem]) rfl ⟨rfl, ?_⟩
  exact (((Below.refl _ _).alloc (Nat.le_refl _) _).alloc (by simp) _)
end Go.Proofs.Ytdfohielnfdmkaa

/- Walks: all[T] of packages hill and relay, with slices.ContainsFunc and slices.IndexFunc, at each element type and each predicate. Each predicate's own contract is a premise. Printed by gen_all.py. -/
set_option linter.unusedVariables false
set_option linter.unusedSimpArgs false
namespace Go.Proofs.Ytdfohielnfdmkaa
open Go.RowKit
attribute [local go_sem low] cell_alloc_ite frozen_alloc_ite

set_option maxHeartbeats 400000 in
theorem idxSta (A : Option Addr) (cap : Nat) (xs : List Sta) (B : Nat) (p : Sta → Bool) (w : World) (hr : RowAt w A 4 encSta xs) (hn : xs.length ≤ 1000)
    (hp : ∀ (x : Sta) (W : World), Below w.heap.size w W → Calls Try.prog 80 #[.agg #[.int .i64 x.x, .int .i64 x.y, .int .i64 x.z, .int .i64 x.m], .pointer (some ⟨B, 0, none⟩)] W fun e W' => e = .returned (.bool (p x)) ∧ Below W.heap.size W W') :
    Calls Try.prog 97 #[.slice A xs.length cap, .func (.func 80) #[] #[.pointer (some ⟨B, 0, none⟩)]] w
      fun e w' => e = .returned (.int .i64 (idxF p xs)) ∧ Below w.heap.size w w' := by
  have HR := Lib.hid hr
  have HP := Lib.hid hp
  clear hr hp
  go_enter Try.func97, Try.ntmps97
  go_wp2
  go_loopw [8] (fun i wr => ∃ k : Nat, k ≤ xs.length ∧ i = .int .i64 k ∧ Hid (∀ (j : Nat) (y : Sta), j < k → xs[j]? = some y → p y = false) ∧ Hid (Below w.heap.size w wr))
    (fun i _ => xs.length - (intOf i).toNat)
  case atStart => exact ⟨0, Nat.zero_le _, rfl, Lib.hid (by intro j y hj; omega), Lib.hid (Below.refl _ _)⟩
  case round =>
    obtain ⟨k, hk, rfl, HN, HB⟩ := hrel
    by_cases hlt : k < xs.length
    · have hx := List.getElem?_eq_getElem hlt
      obtain ⟨b, o, hA, e0, e1, e2, e3⟩ := (HR.out.kept (kept_of_below HB.out)).sta hx
      generalize xs[k] = x at *
      subst hA
      have HX := Lib.hid hx
      clear hx
      have HC := Lib.hid (HP.out x wr HB.out)
      cases hpx : p x with
      | true =>
        go_wp2_with (go_at_call 80; refine (HC.out).mono ?_; rintro e w' ⟨rfl, hb⟩)
        go_ret
        refine ⟨?_, below_tr HB.out hb⟩
        rw [idxF_at p xs k x HX.out hpx HN.out]; rfl
      | false =>
        go_wp2_with (go_at_call 80; refine (HC.out).mono ?_; rintro e w' ⟨rfl, hb⟩)
        go_roundw
        case rel => exact ⟨k + 1, by omega, by go_num, Lib.hid (by
          intro j y hj hy
          by_cases hjk : j = k
          · subst hjk; rw [HX.out] at hy; cases hy; exact hpx
          · exact HN.out j y (by omega) hy), Lib.hid (below_tr HB.out hb)⟩
        case measure => simp [intOf]; omega
    · go_wp2
      go_ret
      refine ⟨?_, HB.out⟩
      rw [idxF_none p xs (fun j y hy => HN.out j y (by have := (List.getElem?_eq_some_iff.1 hy).1; omega) hy)]; rfl

set_option maxHeartbeats 400000 in
theorem contSta (A : Option Addr) (cap : Nat) (xs : List Sta) (B : Nat) (p : Sta → Bool) (w : World) (hr : RowAt w A 4 encSta xs) (hn : xs.length ≤ 1000)
    (hp : ∀ (x : Sta) (W : World), Below w.heap.size w W → Calls Try.prog 80 #[.agg #[.int .i64 x.x, .int .i64 x.y, .int .i64 x.z, .int .i64 x.m], .pointer (some ⟨B, 0, none⟩)] W fun e W' => e = .returned (.bool (p x)) ∧ Below W.heap.size W W') :
    Calls Try.prog 79 #[.slice A xs.length cap, .func (.func 80) #[] #[.pointer (some ⟨B, 0, none⟩)]] w
      fun e w' => e = .returned (.bool (xs.any p)) ∧ Below w.heap.size w w' := by
  have HC := Lib.hid (idxSta A cap xs B p w hr hn hp)
  have HA := Lib.hid (idxF_any p xs).1
  clear hr hp
  go_enter Try.func79, Try.ntmps79
  go_wp2_with (go_at_call 97; refine (HC.out).mono ?_; rintro e w' ⟨rfl, hb⟩)
  go_ret
  exact ⟨by rw [← HA.out]; rfl, hb⟩

set_option maxHeartbeats 400000 in
theorem idxWal (A : Option Addr) (cap : Nat) (xs : List Wal) (B : Nat) (p : Wal → Bool) (w : World) (hr : RowAt w A 6 encWal xs) (hn : xs.length ≤ 1000)
    (hp : ∀ (x : Wal) (W : World), Below w.heap.size w W → Calls Try.prog 84 #[.agg #[.int .i64 x.x1, .int .i64 x.y1, .int .i64 x.x2, .int .i64 x.y2, .int .i64 x.b, .int .i64 x.t], .pointer (some ⟨B, 0, none⟩)] W fun e W' => e = .returned (.bool (p x)) ∧ Below W.heap.size W W') :
    Calls Try.prog 98 #[.slice A xs.length cap, .func (.func 84) #[] #[.pointer (some ⟨B, 0, none⟩)]] w
      fun e w' => e = .returned (.int .i64 (idxF p xs)) ∧ Below w.heap.size w w' := by
  have HR := Lib.hid hr
  have HP := Lib.hid hp
  clear hr hp
  go_enter Try.func98, Try.ntmps98
  go_wp2
  go_loopw [8] (fun i wr => ∃ k : Nat, k ≤ xs.length ∧ i = .int .i64 k ∧ Hid (∀ (j : Nat) (y : Wal), j < k → xs[j]? = some y → p y = false) ∧ Hid (Below w.heap.size w wr))
    (fun i _ => xs.length - (intOf i).toNat)
  case atStart => exact ⟨0, Nat.zero_le _, rfl, Lib.hid (by intro j y hj; omega), Lib.hid (Below.refl _ _)⟩
  case round =>
    obtain ⟨k, hk, rfl, HN, HB⟩ := hrel
    by_cases hlt : k < xs.length
    · have hx := List.getElem?_eq_getElem hlt
      obtain ⟨b, o, hA, e0, e1, e2, e3, e4, e5⟩ := (HR.out.kept (kept_of_below HB.out)).wal hx
      generalize xs[k] = x at *
      subst hA
      have HX := Lib.hid hx
      clear hx
      have HC := Lib.hid (HP.out x wr HB.out)
      cases hpx : p x with
      | true =>
        go_wp2_with (go_at_call 84; refine (HC.out).mono ?_; rintro e w' ⟨rfl, hb⟩)
        go_ret
        refine ⟨?_, below_tr HB.out hb⟩
        rw [idxF_at p xs k x HX.out hpx HN.out]; rfl
      | false =>
        go_wp2_with (go_at_call 84; refine (HC.out).mono ?_; rintro e w' ⟨rfl, hb⟩)
        go_roundw
        case rel => exact ⟨k + 1, by omega, by go_num, Lib.hid (by
          intro j y hj hy
          by_cases hjk : j = k
          · subst hjk; rw [HX.out] at hy; cases hy; exact hpx
          · exact HN.out j y (by omega) hy), Lib.hid (below_tr HB.out hb)⟩
        case measure => simp [intOf]; omega
    · go_wp2
      go_ret
      refine ⟨?_, HB.out⟩
      rw [idxF_none p xs (fun j y hy => HN.out j y (by have := (List.getElem?_eq_some_iff.1 hy).1; omega) hy)]; rfl

set_option maxHeartbeats 400000 in
theorem contWal (A : Option Addr) (cap : Nat) (xs : List Wal) (B : Nat) (p : Wal → Bool) (w : World) (hr : RowAt w A 6 encWal xs) (hn : xs.length ≤ 1000)
    (hp : ∀ (x : Wal) (W : World), Below w.heap.size w W → Calls Try.prog 84 #[.agg #[.int .i64 x.x1, .int .i64 x.y1, .int .i64 x.x2, .int .i64 x.y2, .int .i64 x.b, .int .i64 x.t], .pointer (some ⟨B, 0, none⟩)] W fun e W' => e = .returned (.bool (p x)) ∧ Below W.heap.size W W') :
    Calls Try.prog 83 #[.slice A xs.length cap, .func (.func 84) #[] #[.pointer (some ⟨B, 0, none⟩)]] w
      fun e w' => e = .returned (.bool (xs.any p)) ∧ Below w.heap.size w w' := by
  have HC := Lib.hid (idxWal A cap xs B p w hr hn hp)
  have HA := Lib.hid (idxF_any p xs).1
  clear hr hp
  go_enter Try.func83, Try.ntmps83
  go_wp2_with (go_at_call 98; refine (HC.out).mono ?_; rintro e w' ⟨rfl, hb⟩)
  go_ret
  exact ⟨by rw [← HA.out]; rfl, hb⟩

set_option maxHeartbeats 400000 in
theorem idxSun (A : Option Addr) (cap : Nat) (xs : List Sun) (B : Nat) (p : Sun → Bool) (w : World) (hr : RowAt w A 3 encSun xs) (hn : xs.length ≤ 1000)
    (hp : ∀ (x : Sun) (W : World), Below w.heap.size w W → Calls Try.prog 86 #[.agg #[.int .i64 x.e, .int .i64 x.n, .int .i64 x.u], .pointer (some ⟨B, 0, none⟩)] W fun e W' => e = .returned (.bool (p x)) ∧ Below W.heap.size W W') :
    Calls Try.prog 99 #[.slice A xs.length cap, .func (.func 86) #[] #[.pointer (some ⟨B, 0, none⟩)]] w
      fun e w' => e = .returned (.int .i64 (idxF p xs)) ∧ Below w.heap.size w w' := by
  have HR := Lib.hid hr
  have HP := Lib.hid hp
  clear hr hp
  go_enter Try.func99, Try.ntmps99
  go_wp2
  go_loopw [8] (fun i wr => ∃ k : Nat, k ≤ xs.length ∧ i = .int .i64 k ∧ Hid (∀ (j : Nat) (y : Sun), j < k → xs[j]? = some y → p y = false) ∧ Hid (Below w.heap.size w wr))
    (fun i _ => xs.length - (intOf i).toNat)
  case atStart => exact ⟨0, Nat.zero_le _, rfl, Lib.hid (by intro j y hj; omega), Lib.hid (Below.refl _ _)⟩
  case round =>
    obtain ⟨k, hk, rfl, HN, HB⟩ := hrel
    by_cases hlt : k < xs.length
    · have hx := List.getElem?_eq_getElem hlt
      obtain ⟨b, o, hA, e0, e1, e2⟩ := (HR.out.kept (kept_of_below HB.out)).sun hx
      generalize xs[k] = x at *
      subst hA
      have HX := Lib.hid hx
      clear hx
      have HC := Lib.hid (HP.out x wr HB.out)
      cases hpx : p x with
      | true =>
        go_wp2_with (go_at_call 86; refine (HC.out).mono ?_; rintro e w' ⟨rfl, hb⟩)
        go_ret
        refine ⟨?_, below_tr HB.out hb⟩
        rw [idxF_at p xs k x HX.out hpx HN.out]; rfl
      | false =>
        go_wp2_with (go_at_call 86; refine (HC.out).mono ?_; rintro e w' ⟨rfl, hb⟩)
        go_roundw
        case rel => exact ⟨k + 1, by omega, by go_num, Lib.hid (by
          intro j y hj hy
          by_cases hjk : j = k
          · subst hjk; rw [HX.out] at hy; cases hy; exact hpx
          · exact HN.out j y (by omega) hy), Lib.hid (below_tr HB.out hb)⟩
        case measure => simp [intOf]; omega
    · go_wp2
      go_ret
      refine ⟨?_, HB.out⟩
      rw [idxF_none p xs (fun j y hy => HN.out j y (by have := (List.getElem?_eq_some_iff.1 hy).1; omega) hy)]; rfl

set_option maxHeartbeats 400000 in
theorem contSun (A : Option Addr) (cap : Nat) (xs : List Sun) (B : Nat) (p : Sun → Bool) (w : World) (hr : RowAt w A 3 encSun xs) (hn : xs.length ≤ 1000)
    (hp : ∀ (x : Sun) (W : World), Below w.heap.size w W → Calls Try.prog 86 #[.agg #[.int .i64 x.e, .int .i64 x.n, .int .i64 x.u], .pointer (some ⟨B, 0, none⟩)] W fun e W' => e = .returned (.bool (p x)) ∧ Below W.heap.size W W') :
    Calls Try.prog 85 #[.slice A xs.length cap, .func (.func 86) #[] #[.pointer (some ⟨B, 0, none⟩)]] w
      fun e w' => e = .returned (.bool (xs.any p)) ∧ Below w.heap.size w w' := by
  have HC := Lib.hid (idxSun A cap xs B p w hr hn hp)
  have HA := Lib.hid (idxF_any p xs).1
  clear hr hp
  go_enter Try.func85, Try.ntmps85
  go_wp2_with (go_at_call 99; refine (HC.out).mono ?_; rintro e w' ⟨rfl, hb⟩)
  go_ret
  exact ⟨by rw [← HA.out]; rfl, hb⟩

set_option maxHeartbeats 400000 in
theorem idxClo (A : Option Addr) (cap : Nat) (xs : List Clo) (B : Nat) (p : Clo → Bool) (w : World) (hr : RowAt w A 8 encClo xs) (hn : xs.length ≤ 1000)
    (hp : ∀ (x : Clo) (W : World), Below w.heap.size w W → Calls Try.prog 76 #[.agg #[.int .i64 x.w.x1, .int .i64 x.w.y1, .int .i64 x.w.x2, .int .i64 x.w.y2, .int .i64 x.w.b, .int .i64 x.w.t, .int .i64 x.f, .int .i64 x.t], .pointer (some ⟨B, 0, none⟩)] W fun e W' => e = .returned (.bool (p x)) ∧ Below W.heap.size W W') :
    Calls Try.prog 95 #[.slice A xs.length cap, .func (.func 76) #[] #[.pointer (some ⟨B, 0, none⟩)]] w
      fun e w' => e = .returned (.int .i64 (idxF p xs)) ∧ Below w.heap.size w w' := by
  have HR := Lib.hid hr
  have HP := Lib.hid hp
  clear hr hp
  go_enter Try.func95, Try.ntmps95
  go_wp2
  go_loopw [8] (fun i wr => ∃ k : Nat, k ≤ xs.length ∧ i = .int .i64 k ∧ Hid (∀ (j : Nat) (y : Clo), j < k → xs[j]? = some y → p y = false) ∧ Hid (Below w.heap.size w wr))
    (fun i _ => xs.length - (intOf i).toNat)
  case atStart => exact ⟨0, Nat.zero_le _, rfl, Lib.hid (by intro j y hj; omega), Lib.hid (Below.refl _ _)⟩
  case round =>
    obtain ⟨k, hk, rfl, HN, HB⟩ := hrel
    by_cases hlt : k < xs.length
    · have hx := List.getElem?_eq_getElem hlt
      obtain ⟨b, o, hA, e0, e1, e2, e3, e4, e5, e6, e7⟩ := (HR.out.kept (kept_of_below HB.out)).clo hx
      generalize xs[k] = x at *
      subst hA
      have HX := Lib.hid hx
      clear hx
      have HC := Lib.hid (HP.out x wr HB.out)
      cases hpx : p x with
      | true =>
        go_wp2_with (go_at_call 76; refine (HC.out).mono ?_; rintro e w' ⟨rfl, hb⟩)
        go_ret
        refine ⟨?_, below_tr HB.out hb⟩
        rw [idxF_at p xs k x HX.out hpx HN.out]; rfl
      | false =>
        go_wp2_with (go_at_call 76; refine (HC.out).mono ?_; rintro e w' ⟨rfl, hb⟩)
        go_roundw
        case rel => exact ⟨k + 1, by omega, by go_num, Lib.hid (by
          intro j y hj hy
          by_cases hjk : j = k
          · subst hjk; rw [HX.out] at hy; cases hy; exact hpx
          · exact HN.out j y (by omega) hy), Lib.hid (below_tr HB.out hb)⟩
        case measure => simp [intOf]; omega
    · go_wp2
      go_ret
      refine ⟨?_, HB.out⟩
      rw [idxF_none p xs (fun j y hy => HN.out j y (by have := (List.getElem?_eq_some_iff.1 hy).1; omega) hy)]; rfl

set_option maxHeartbeats 400000 in
theorem contClo (A : Option Addr) (cap : Nat) (xs : List Clo) (B : Nat) (p : Clo → Bool) (w : World) (hr : RowAt w A 8 encClo xs) (hn : xs.length ≤ 1000)
    (hp : ∀ (x : Clo) (W : World), Below w.heap.size w W → Calls Try.prog 76 #[.agg #[.int .i64 x.w.x1, .int .i64 x.w.y1, .int .i64 x.w.x2, .int .i64 x.w.y2, .int .i64 x.w.b, .int .i64 x.w.t, .int .i64 x.f, .int .i64 x.t], .pointer (some ⟨B, 0, none⟩)] W fun e W' => e = .returned (.bool (p x)) ∧ Below W.heap.size W W') :
    Calls Try.prog 75 #[.slice A xs.length cap, .func (.func 76) #[] #[.pointer (some ⟨B, 0, none⟩)]] w
      fun e w' => e = .returned (.bool (xs.any p)) ∧ Below w.heap.size w w' := by
  have HC := Lib.hid (idxClo A cap xs B p w hr hn hp)
  have HA := Lib.hid (idxF_any p xs).1
  clear hr hp
  go_enter Try.func75, Try.ntmps75
  go_wp2_with (go_at_call 95; refine (HC.out).mono ?_; rintro e w' ⟨rfl, hb⟩)
  go_ret
  exact ⟨by rw [← HA.out]; rfl, hb⟩

set_option maxHeartbeats 400000 in
theorem idxHInt (A : Option Addr) (cap : Nat) (xs : List Int) (B : Nat) (p : Int → Bool) (w : World) (hr : RowAt w A 1 encInt xs) (hn : xs.length ≤ 1000)
    (hp : ∀ (x : Int) (W : World), Below w.heap.size w W → Calls Try.prog 100 #[.int .i64 x, .pointer (some ⟨B, 0, none⟩)] W fun e W' => e = .returned (.bool (p x)) ∧ Below W.heap.size W W') :
    Calls Try.prog 69 #[.slice A xs.length cap, .func (.func 100) #[] #[.pointer (some ⟨B, 0, none⟩)]] w
      fun e w' => e = .returned (.int .i64 (idxF p xs)) ∧ Below w.heap.size w w' := by
  have HR := Lib.hid hr
  have HP := Lib.hid hp
  clear hr hp
  go_enter Try.func69, Try.ntmps69
  go_wp2
  go_loopw [8] (fun i wr => ∃ k : Nat, k ≤ xs.length ∧ i = .int .i64 k ∧ Hid (∀ (j : Nat) (y : Int), j < k → xs[j]? = some y → p y = false) ∧ Hid (Below w.heap.size w wr))
    (fun i _ => xs.length - (intOf i).toNat)
  case atStart => exact ⟨0, Nat.zero_le _, rfl, Lib.hid (by intro j y hj; omega), Lib.hid (Below.refl _ _)⟩
  case round =>
    obtain ⟨k, hk, rfl, HN, HB⟩ := hrel
    by_cases hlt : k < xs.length
    · have hx := List.getElem?_eq_getElem hlt
      obtain ⟨b, o, hA, e0⟩ := (HR.out.kept (kept_of_below HB.out)).num hx
      generalize xs[k] = x at *
      subst hA
      have HX := Lib.hid hx
      clear hx
      have HC := Lib.hid (HP.out x wr HB.out)
      cases hpx : p x with
      | true =>
        go_wp2_with (go_at_call 100; refine (HC.out).mono ?_; rintro e w' ⟨rfl, hb⟩)
        go_ret
        refine ⟨?_, below_tr HB.out hb⟩
        rw [idxF_at p xs k x HX.out hpx HN.out]; rfl
      | false =>
        go_wp2_with (go_at_call 100; refine (HC.out).mono ?_; rintro e w' ⟨rfl, hb⟩)
        go_roundw
        case rel => exact ⟨k + 1, by omega, by go_num, Lib.hid (by
          intro j y hj hy
          by_cases hjk : j = k
          · subst hjk; rw [HX.out] at hy; cases hy; exact hpx
          · exact HN.out j y (by omega) hy), Lib.hid (below_tr HB.out hb)⟩
        case measure => simp [intOf]; omega
    · go_wp2
      go_ret
      refine ⟨?_, HB.out⟩
      rw [idxF_none p xs (fun j y hy => HN.out j y (by have := (List.getElem?_eq_some_iff.1 hy).1; omega) hy)]; rfl

set_option maxHeartbeats 400000 in
theorem contHInt (A : Option Addr) (cap : Nat) (xs : List Int) (B : Nat) (p : Int → Bool) (w : World) (hr : RowAt w A 1 encInt xs) (hn : xs.length ≤ 1000)
    (hp : ∀ (x : Int) (W : World), Below w.heap.size w W → Calls Try.prog 100 #[.int .i64 x, .pointer (some ⟨B, 0, none⟩)] W fun e W' => e = .returned (.bool (p x)) ∧ Below W.heap.size W W') :
    Calls Try.prog 51 #[.slice A xs.length cap, .func (.func 100) #[] #[.pointer (some ⟨B, 0, none⟩)]] w
      fun e w' => e = .returned (.bool (xs.any p)) ∧ Below w.heap.size w w' := by
  have HC := Lib.hid (idxHInt A cap xs B p w hr hn hp)
  have HA := Lib.hid (idxF_any p xs).1
  clear hr hp
  go_enter Try.func51, Try.ntmps51
  go_wp2_with (go_at_call 69; refine (HC.out).mono ?_; rintro e w' ⟨rfl, hb⟩)
  go_ret
  exact ⟨by rw [← HA.out]; rfl, hb⟩

set_option maxHeartbeats 400000 in
theorem idxRInt (A : Option Addr) (cap : Nat) (xs : List Int) (B : Nat) (p : Int → Bool) (w : World) (hr : RowAt w A 1 encInt xs) (hn : xs.length ≤ 1000)
    (hp : ∀ (x : Int) (W : World), Below w.heap.size w W → Calls Try.prog 52 #[.int .i64 x, .pointer (some ⟨B, 0, none⟩)] W fun e W' => e = .returned (.bool (p x)) ∧ Below W.heap.size W W') :
    Calls Try.prog 69 #[.slice A xs.length cap, .func (.func 52) #[] #[.pointer (some ⟨B, 0, none⟩)]] w
      fun e w' => e = .returned (.int .i64 (idxF p xs)) ∧ Below w.heap.size w w' := by
  have HR := Lib.hid hr
  have HP := Lib.hid hp
  clear hr hp
  go_enter Try.func69, Try.ntmps69
  go_wp2
  go_loopw [8] (fun i wr => ∃ k : Nat, k ≤ xs.length ∧ i = .int .i64 k ∧ Hid (∀ (j : Nat) (y : Int), j < k → xs[j]? = some y → p y = false) ∧ Hid (Below w.heap.size w wr))
    (fun i _ => xs.length - (intOf i).toNat)
  case atStart => exact ⟨0, Nat.zero_le _, rfl, Lib.hid (by intro j y hj; omega), Lib.hid (Below.refl _ _)⟩
  case round =>
    obtain ⟨k, hk, rfl, HN, HB⟩ := hrel
    by_cases hlt : k < xs.length
    · have hx := List.getElem?_eq_getElem hlt
      obtain ⟨b, o, hA, e0⟩ := (HR.out.kept (kept_of_below HB.out)).num hx
      generalize xs[k] = x at *
      subst hA
      have HX := Lib.hid hx
      clear hx
      have HC := Lib.hid (HP.out x wr HB.out)
      cases hpx : p x with
      | true =>
        go_wp2_with (go_at_call 52; refine (HC.out).mono ?_; rintro e w' ⟨rfl, hb⟩)
        go_ret
        refine ⟨?_, below_tr HB.out hb⟩
        rw [idxF_at p xs k x HX.out hpx HN.out]; rfl
      | false =>
        go_wp2_with (go_at_call 52; refine (HC.out).mono ?_; rintro e w' ⟨rfl, hb⟩)
        go_roundw
        case rel => exact ⟨k + 1, by omega, by go_num, Lib.hid (by
          intro j y hj hy
          by_cases hjk : j = k
          · subst hjk; rw [HX.out] at hy; cases hy; exact hpx
          · exact HN.out j y (by omega) hy), Lib.hid (below_tr HB.out hb)⟩
        case measure => simp [intOf]; omega
    · go_wp2
      go_ret
      refine ⟨?_, HB.out⟩
      rw [idxF_none p xs (fun j y hy => HN.out j y (by have := (List.getElem?_eq_some_iff.1 hy).1; omega) hy)]; rfl

set_option maxHeartbeats 400000 in
theorem contRInt (A : Option Addr) (cap : Nat) (xs : List Int) (B : Nat) (p : Int → Bool) (w : World) (hr : RowAt w A 1 encInt xs) (hn : xs.length ≤ 1000)
    (hp : ∀ (x : Int) (W : World), Below w.heap.size w W → Calls Try.prog 52 #[.int .i64 x, .pointer (some ⟨B, 0, none⟩)] W fun e W' => e = .returned (.bool (p x)) ∧ Below W.heap.size W W') :
    Calls Try.prog 51 #[.slice A xs.length cap, .func (.func 52) #[] #[.pointer (some ⟨B, 0, none⟩)]] w
      fun e w' => e = .returned (.bool (xs.any p)) ∧ Below w.heap.size w w' := by
  have HC := Lib.hid (idxRInt A cap xs B p w hr hn hp)
  have HA := Lib.hid (idxF_any p xs).1
  clear hr hp
  go_enter Try.func51, Try.ntmps51
  go_wp2_with (go_at_call 69; refine (HC.out).mono ?_; rintro e w' ⟨rfl, hb⟩)
  go_ret
  exact ⟨by rw [← HA.out]; rfl, hb⟩

set_option maxHeartbeats 400000 in
theorem cloSta  (x : Sta) (B : Nat) (q : Sta → Bool) (w : World) (hB : w.cell? ⟨B, 0, none⟩ = some (.func (.func 61) #[] #[]))
    (hq : ∀ (W : World), Below w.heap.size w W → Calls Try.prog 61 #[.agg #[.int .i64 x.x, .int .i64 x.y, .int .i64 x.z, .int .i64 x.m]] W fun e W' => e = .returned (.bool (q x)) ∧ Below W.heap.size W W') :
    Calls Try.prog 80 #[.agg #[.int .i64 x.x, .int .i64 x.y, .int .i64 x.z, .int .i64 x.m], .pointer (some ⟨B, 0, none⟩)] w fun e w' => e = .returned (.bool (!q x)) ∧ Below w.heap.size w w' := by
  have HQ := Lib.hid hq
  have hlt := cell_lt hB
  simp only at hlt
  clear hq
  go_enter Try.func80, Try.ntmps80
  go_wp2_with (go_at_call 61; refine (HQ.out _ (by (repeat (first | exact Below.refl _ _ | (with_reducible exact Hid.out (by assumption)) | refine below_al ?_ _ | refine below_dr ?_ | refine below_tr ?_ (by assumption) | refine below_tr ?_ (Bel.out (by assumption)) | refine below_tr ?_ (Bel.out (ov_bel _ _)) | refine below_set ?_ (by simp; try omega))))).mono ?_; rintro e w' ⟨rfl, hb⟩)
  go_ret
  exact ⟨rfl, by (repeat (first | exact Below.refl _ _ | (with_reducible exact Hid.out (by assumption)) | refine below_al ?_ _ | refine below_dr ?_ | refine below_tr ?_ (by assumption) | refine below_tr ?_ (Bel.out (by assumption)) | refine below_tr ?_ (Bel.out (ov_bel _ _)) | refine below_set ?_ (by simp; try omega)))⟩

set_option maxHeartbeats 400000 in
theorem allSta  (A : Option Addr) (cap : Nat) (xs : List Sta) (q : Sta → Bool) (w : World) (hr : RowAt w A 4 encSta xs) (hn : xs.length ≤ 1000)
    (hq : ∀ (x : Sta) (W : World), Below w.heap.size w W → Calls Try.prog 61 #[.agg #[.int .i64 x.x, .int .i64 x.y, .int .i64 x.z, .int .i64 x.m]] W fun e W' => e = .returned (.bool (q x)) ∧ Below W.heap.size W W') :
    Calls Try.prog 60 #[.slice A xs.length cap, .func (.func 61) #[] #[]] w fun e w' => e = .returned (.bool (xs.all q)) ∧ Below w.heap.size w w' := by
  have e1 : Below w.heap.size w (w.alloc (.cells #[.func (.func 61) #[] #[]] 128)) := by (repeat (first | exact Below.refl _ _ | (with_reducible exact Hid.out (by assumption)) | refine below_al ?_ _ | refine below_dr ?_ | refine below_tr ?_ (by assumption) | refine below_tr ?_ (Bel.out (by assumption)) | refine below_tr ?_ (Bel.out (ov_bel _ _)) | refine below_set ?_ (by simp; try omega)))
  have hc0 : (w.alloc (.cells #[.func (.func 61) #[] #[]] 128)).cell? ⟨w.heap.size, 0, none⟩ = some (.func (.func 61) #[] #[]) := by go_simp
  have HC := Lib.hid (contSta A cap xs w.heap.size (fun x => !q x) _ (hr.kept (kept_of_below e1)) hn (fun x W hW => cloSta  x w.heap.size q W ((kept_of_below hW) _ _ hc0) (fun W' hW' => hq x W' (below_tr (below_tr e1 hW) hW'))))
  have HA : Hid ((!xs.any fun x => !q x) = xs.all q) := Lib.hid (by rw [List.not_any_eq_all_not]; simp)
  clear hr hq hc0 e1
  go_enter Try.func60, Try.ntmps60
  go_wp2_with (go_at_call 79; refine (HC.out).mono ?_; rintro e w' ⟨rfl, hb⟩)
  go_ret
  exact ⟨by rw [← HA.out]; rfl, by (repeat (first | exact Below.refl _ _ | (with_reducible exact Hid.out (by assumption)) | refine below_al ?_ _ | refine below_dr ?_ | refine below_tr ?_ (by assumption) | refine below_tr ?_ (Bel.out (by assumption)) | refine below_tr ?_ (Bel.out (ov_bel _ _)) | refine below_set ?_ (by simp; try omega)))⟩

set_option maxHeartbeats 400000 in
theorem cloWal  (x : Wal) (B : Nat) (q : Wal → Bool) (w : World) (hB : w.cell? ⟨B, 0, none⟩ = some (.func (.func 64) #[] #[]))
    (hq : ∀ (W : World), Below w.heap.size w W → Calls Try.prog 64 #[.agg #[.int .i64 x.x1, .int .i64 x.y1, .int .i64 x.x2, .int .i64 x.y2, .int .i64 x.b, .int .i64 x.t]] W fun e W' => e = .returned (.bool (q x)) ∧ Below W.heap.size W W') :
    Calls Try.prog 84 #[.agg #[.int .i64 x.x1, .int .i64 x.y1, .int .i64 x.x2, .int .i64 x.y2, .int .i64 x.b, .int .i64 x.t], .pointer (some ⟨B, 0, none⟩)] w fun e w' => e = .returned (.bool (!q x)) ∧ Below w.heap.size w w' := by
  have HQ := Lib.hid hq
  have hlt := cell_lt hB
  simp only at hlt
  clear hq
  go_enter Try.func84, Try.ntmps84
  go_wp2_with (go_at_call 64; refine (HQ.out _ (by (repeat (first | exact Below.refl _ _ | (with_reducible exact Hid.out (by assumption)) | refine below_al ?_ _ | refine below_dr ?_ | refine below_tr ?_ (by assumption) | refine below_tr ?_ (Bel.out (by assumption)) | refine below_tr ?_ (Bel.out (ov_bel _ _)) | refine below_set ?_ (by simp; try omega))))).mono ?_; rintro e w' ⟨rfl, hb⟩)
  go_ret
  exact ⟨rfl, by (repeat (first | exact Below.refl _ _ | (with_reducible exact Hid.out (by assumption)) | refine below_al ?_ _ | refine below_dr ?_ | refine below_tr ?_ (by assumption) | refine below_tr ?_ (Bel.out (by assumption)) | refine below_tr ?_ (Bel.out (ov_bel _ _)) | refine below_set ?_ (by simp; try omega)))⟩

set_option maxHeartbeats 400000 in
theorem allWal  (A : Option Addr) (cap : Nat) (xs : List Wal) (q : Wal → Bool) (w : World) (hr : RowAt w A 6 encWal xs) (hn : xs.length ≤ 1000)
    (hq : ∀ (x : Wal) (W : World), Below w.heap.size w W → Calls Try.prog 64 #[.agg #[.int .i64 x.x1, .int .i64 x.y1, .int .i64 x.x2, .int .i64 x.y2, .int .i64 x.b, .int .i64 x.t]] W fun e W' => e = .returned (.bool (q x)) ∧ Below W.heap.size W W') :
    Calls Try.prog 63 #[.slice A xs.length cap, .func (.func 64) #[] #[]] w fun e w' => e = .returned (.bool (xs.all q)) ∧ Below w.heap.size w w' := by
  have e1 : Below w.heap.size w (w.alloc (.cells #[.func (.func 64) #[] #[]] 130)) := by (repeat (first | exact Below.refl _ _ | (with_reducible exact Hid.out (by assumption)) | refine below_al ?_ _ | refine below_dr ?_ | refine below_tr ?_ (by assumption) | refine below_tr ?_ (Bel.out (by assumption)) | refine below_tr ?_ (Bel.out (ov_bel _ _)) | refine below_set ?_ (by simp; try omega)))
  have hc0 : (w.alloc (.cells #[.func (.func 64) #[] #[]] 130)).cell? ⟨w.heap.size, 0, none⟩ = some (.func (.func 64) #[] #[]) := by go_simp
  have HC := Lib.hid (contWal A cap xs w.heap.size (fun x => !q x) _ (hr.kept (kept_of_below e1)) hn (fun x W hW => cloWal  x w.heap.size q W ((kept_of_below hW) _ _ hc0) (fun W' hW' => hq x W' (below_tr (below_tr e1 hW) hW'))))
  have HA : Hid ((!xs.any fun x => !q x) = xs.all q) := Lib.hid (by rw [List.not_any_eq_all_not]; simp)
  clear hr hq hc0 e1
  go_enter Try.func63, Try.ntmps63
  go_wp2_with (go_at_call 83; refine (HC.out).mono ?_; rintro e w' ⟨rfl, hb⟩)
  go_ret
  exact ⟨by rw [← HA.out]; rfl, by (repeat (first | exact Below.refl _ _ | (with_reducible exact Hid.out (by assumption)) | refine below_al ?_ _ | refine below_dr ?_ | refine below_tr ?_ (by assumption) | refine below_tr ?_ (Bel.out (by assumption)) | refine below_tr ?_ (Bel.out (ov_bel _ _)) | refine below_set ?_ (by simp; try omega)))⟩

set_option maxHeartbeats 400000 in
theorem cloSun  (x : Sun) (B : Nat) (q : Sun → Bool) (w : World) (hB : w.cell? ⟨B, 0, none⟩ = some (.func (.func 66) #[] #[]))
    (hq : ∀ (W : World), Below w.heap.size w W → Calls Try.prog 66 #[.agg #[.int .i64 x.e, .int .i64 x.n, .int .i64 x.u]] W fun e W' => e = .returned (.bool (q x)) ∧ Below W.heap.size W W') :
    Calls Try.prog 86 #[.agg #[.int .i64 x.e, .int .i64 x.n, .int .i64 x.u], .pointer (some ⟨B, 0, none⟩)] w fun e w' => e = .returned (.bool (!q x)) ∧ Below w.heap.size w w' := by
  have HQ := Lib.hid hq
  have hlt := cell_lt hB
  simp only at hlt
  clear hq
  go_enter Try.func86, Try.ntmps86
  go_wp2_with (go_at_call 66; refine (HQ.out _ (by (repeat (first | exact Below.refl _ _ | (with_reducible exact Hid.out (by assumption)) | refine below_al ?_ _ | refine below_dr ?_ | refine below_tr ?_ (by assumption) | refine below_tr ?_ (Bel.out (by assumption)) | refine below_tr ?_ (Bel.out (ov_bel _ _)) | refine below_set ?_ (by simp; try omega))))).mono ?_; rintro e w' ⟨rfl, hb⟩)
  go_ret
  exact ⟨rfl, by (repeat (first | exact Below.refl _ _ | (with_reducible exact Hid.out (by assumption)) | refine below_al ?_ _ | refine below_dr ?_ | refine below_tr ?_ (by assumption) | refine below_tr ?_ (Bel.out (by assumption)) | refine below_tr ?_ (Bel.out (ov_bel _ _)) | refine below_set ?_ (by simp; try omega)))⟩

set_option maxHeartbeats 400000 in
theorem allSun  (A : Option Addr) (cap : Nat) (xs : List Sun) (q : Sun → Bool) (w : World) (hr : RowAt w A 3 encSun xs) (hn : xs.length ≤ 1000)
    (hq : ∀ (x : Sun) (W : World), Below w.heap.size w W → Calls Try.prog 66 #[.agg #[.int .i64 x.e, .int .i64 x.n, .int .i64 x.u]] W fun e W' => e = .returned (.bool (q x)) ∧ Below W.heap.size W W') :
    Calls Try.prog 65 #[.slice A xs.length cap, .func (.func 66) #[] #[]] w fun e w' => e = .returned (.bool (xs.all q)) ∧ Below w.heap.size w w' := by
  have e1 : Below w.heap.size w (w.alloc (.cells #[.func (.func 66) #[] #[]] 132)) := by (repeat (first | exact Below.refl _ _ | (with_reducible exact Hid.out (by assumption)) | refine below_al ?_ _ | refine below_dr ?_ | refine below_tr ?_ (by assumption) | refine below_tr ?_ (Bel.out (by assumption)) | refine below_tr ?_ (Bel.out (ov_bel _ _)) | refine below_set ?_ (by simp; try omega)))
  have hc0 : (w.alloc (.cells #[.func (.func 66) #[] #[]] 132)).cell? ⟨w.heap.size, 0, none⟩ = some (.func (.func 66) #[] #[]) := by go_simp
  have HC := Lib.hid (contSun A cap xs w.heap.size (fun x => !q x) _ (hr.kept (kept_of_below e1)) hn (fun x W hW => cloSun  x w.heap.size q W ((kept_of_below hW) _ _ hc0) (fun W' hW' => hq x W' (below_tr (below_tr e1 hW) hW'))))
  have HA : Hid ((!xs.any fun x => !q x) = xs.all q) := Lib.hid (by rw [List.not_any_eq_all_not]; simp)
  clear hr hq hc0 e1
  go_enter Try.func65, Try.ntmps65
  go_wp2_with (go_at_call 85; refine (HC.out).mono ?_; rintro e w' ⟨rfl, hb⟩)
  go_ret
  exact ⟨by rw [← HA.out]; rfl, by (repeat (first | exact Below.refl _ _ | (with_reducible exact Hid.out (by assumption)) | refine below_al ?_ _ | refine below_dr ?_ | refine below_tr ?_ (by assumption) | refine below_tr ?_ (Bel.out (by assumption)) | refine below_tr ?_ (Bel.out (ov_bel _ _)) | refine below_set ?_ (by simp; try omega)))⟩

set_option maxHeartbeats 400000 in
theorem cloClo (V : LV) (L : Lnd) (x : Clo) (B : Nat) (q : Clo → Bool) (w : World) (hB : w.cell? ⟨B, 0, none⟩ = some (.func (.func 55) #[vLnd V L] #[]))
    (hq : ∀ (W : World), Below w.heap.size w W → Calls Try.prog 55 #[vLnd V L, .agg #[.int .i64 x.w.x1, .int .i64 x.w.y1, .int .i64 x.w.x2, .int .i64 x.w.y2, .int .i64 x.w.b, .int .i64 x.w.t, .int .i64 x.f, .int .i64 x.t]] W fun e W' => e = .returned (.bool (q x)) ∧ Below W.heap.size W W') :
    Calls Try.prog 76 #[.agg #[.int .i64 x.w.x1, .int .i64 x.w.y1, .int .i64 x.w.x2, .int .i64 x.w.y2, .int .i64 x.w.b, .int .i64 x.w.t, .int .i64 x.f, .int .i64 x.t], .pointer (some ⟨B, 0, none⟩)] w fun e w' => e = .returned (.bool (!q x)) ∧ Below w.heap.size w w' := by
  have HQ := Lib.hid hq
  have hlt := cell_lt hB
  simp only at hlt
  clear hq
  go_enter Try.func76, Try.ntmps76
  go_wp2_with (go_at_call 55; refine (HQ.out _ (by (repeat (first | exact Below.refl _ _ | (with_reducible exact Hid.out (by assumption)) | refine below_al ?_ _ | refine below_dr ?_ | refine below_tr ?_ (by assumption) | refine below_tr ?_ (Bel.out (by assumption)) | refine below_tr ?_ (Bel.out (ov_bel _ _)) | refine below_set ?_ (by simp; try omega))))).mono ?_; rintro e w' ⟨rfl, hb⟩)
  go_ret
  exact ⟨rfl, by (repeat (first | exact Below.refl _ _ | (with_reducible exact Hid.out (by assumption)) | refine below_al ?_ _ | refine below_dr ?_ | refine below_tr ?_ (by assumption) | refine below_tr ?_ (Bel.out (by assumption)) | refine below_tr ?_ (Bel.out (ov_bel _ _)) | refine below_set ?_ (by simp; try omega)))⟩

set_option maxHeartbeats 400000 in
theorem allClo (V : LV) (L : Lnd) (A : Option Addr) (cap : Nat) (xs : List Clo) (q : Clo → Bool) (w : World) (hr : RowAt w A 8 encClo xs) (hn : xs.length ≤ 1000)
    (hq : ∀ (x : Clo) (W : World), Below w.heap.size w W → Calls Try.prog 55 #[vLnd V L, .agg #[.int .i64 x.w.x1, .int .i64 x.w.y1, .int .i64 x.w.x2, .int .i64 x.w.y2, .int .i64 x.w.b, .int .i64 x.w.t, .int .i64 x.f, .int .i64 x.t]] W fun e W' => e = .returned (.bool (q x)) ∧ Below W.heap.size W W') :
    Calls Try.prog 58 #[.slice A xs.length cap, .func (.func 55) #[vLnd V L] #[]] w fun e w' => e = .returned (.bool (xs.all q)) ∧ Below w.heap.size w w' := by
  have e1 : Below w.heap.size w (w.alloc (.cells #[.func (.func 55) #[vLnd V L] #[]] 123)) := by (repeat (first | exact Below.refl _ _ | (with_reducible exact Hid.out (by assumption)) | refine below_al ?_ _ | refine below_dr ?_ | refine below_tr ?_ (by assumption) | refine below_tr ?_ (Bel.out (by assumption)) | refine below_tr ?_ (Bel.out (ov_bel _ _)) | refine below_set ?_ (by simp; try omega)))
  have hc0 : (w.alloc (.cells #[.func (.func 55) #[vLnd V L] #[]] 123)).cell? ⟨w.heap.size, 0, none⟩ = some (.func (.func 55) #[vLnd V L] #[]) := by go_simp
  have HC := Lib.hid (contClo A cap xs w.heap.size (fun x => !q x) _ (hr.kept (kept_of_below e1)) hn (fun x W hW => cloClo V L x w.heap.size q W ((kept_of_below hW) _ _ hc0) (fun W' hW' => hq x W' (below_tr (below_tr e1 hW) hW'))))
  have HA : Hid ((!xs.any fun x => !q x) = xs.all q) := Lib.hid (by rw [List.not_any_eq_all_not]; simp)
  clear hr hq hc0 e1
  go_enter Try.func58, Try.ntmps58
  go_wp2_with (go_at_call 75; refine (HC.out).mono ?_; rintro e w' ⟨rfl, hb⟩)
  go_ret
  exact ⟨by rw [← HA.out]; rfl, by (repeat (first | exact Below.refl _ _ | (with_reducible exact Hid.out (by assumption)) | refine below_al ?_ _ | refine below_dr ?_ | refine below_tr ?_ (by assumption) | refine below_tr ?_ (Bel.out (by assumption)) | refine below_tr ?_ (Bel.out (ov_bel _ _)) | refine below_set ?_ (by simp; try omega)))⟩

set_option maxHeartbeats 400000 in
theorem cloSunN  (x : Int) (B : Nat) (q : Int → Bool) (w : World) (hB : w.cell? ⟨B, 0, none⟩ = some (.func (.func 88) #[] #[]))
    (hq : ∀ (W : World), Below w.heap.size w W → Calls Try.prog 88 #[.int .i64 x] W fun e W' => e = .returned (.bool (q x)) ∧ Below W.heap.size W W') :
    Calls Try.prog 100 #[.int .i64 x, .pointer (some ⟨B, 0, none⟩)] w fun e w' => e = .returned (.bool (!q x)) ∧ Below w.heap.size w w' := by
  have HQ := Lib.hid hq
  have hlt := cell_lt hB
  simp only at hlt
  clear hq
  go_enter Try.func100, Try.ntmps100
  go_wp2_with (go_at_call 88; refine (HQ.out _ (by (repeat (first | exact Below.refl _ _ | (with_reducible exact Hid.out (by assumption)) | refine below_al ?_ _ | refine below_dr ?_ | refine below_tr ?_ (by assumption) | refine below_tr ?_ (Bel.out (by assumption)) | refine below_tr ?_ (Bel.out (ov_bel _ _)) | refine below_set ?_ (by simp; try omega))))).mono ?_; rintro e w' ⟨rfl, hb⟩)
  go_ret
  exact ⟨rfl, by (repeat (first | exact Below.refl _ _ | (with_reducible exact Hid.out (by assumption)) | refine below_al ?_ _ | refine below_dr ?_ | refine below_tr ?_ (by assumption) | refine below_tr ?_ (Bel.out (by assumption)) | refine below_tr ?_ (Bel.out (ov_bel _ _)) | refine below_set ?_ (by simp; try omega)))⟩

set_option maxHeartbeats 400000 in
theorem allSunN  (A : Option Addr) (cap : Nat) (xs : List Int) (q : Int → Bool) (w : World) (hr : RowAt w A 1 encInt xs) (hn : xs.length ≤ 1000)
    (hq : ∀ (x : Int) (W : World), Below w.heap.size w W → Calls Try.prog 88 #[.int .i64 x] W fun e W' => e = .returned (.bool (q x)) ∧ Below W.heap.size W W') :
    Calls Try.prog 87 #[.slice A xs.length cap, .func (.func 88) #[] #[]] w fun e w' => e = .returned (.bool (xs.all q)) ∧ Below w.heap.size w w' := by
  have e1 : Below w.heap.size w (w.alloc (.cells #[.func (.func 88) #[] #[]] 104)) := by (repeat (first | exact Below.refl _ _ | (with_reducible exact Hid.out (by assumption)) | refine below_al ?_ _ | refine below_dr ?_ | refine below_tr ?_ (by assumption) | refine below_tr ?_ (Bel.out (by assumption)) | refine below_tr ?_ (Bel.out (ov_bel _ _)) | refine below_set ?_ (by simp; try omega)))
  have hc0 : (w.alloc (.cells #[.func (.func 88) #[] #[]] 104)).cell? ⟨w.heap.size, 0, none⟩ = some (.func (.func 88) #[] #[]) := by go_simp
  have HC := Lib.hid (contHInt A cap xs w.heap.size (fun x => !q x) _ (hr.kept (kept_of_below e1)) hn (fun x W hW => cloSunN  x w.heap.size q W ((kept_of_below hW) _ _ hc0) (fun W' hW' => hq x W' (below_tr (below_tr e1 hW) hW'))))
  have HA : Hid ((!xs.any fun x => !q x) = xs.all q) := Lib.hid (by rw [List.not_any_eq_all_not]; simp)
  clear hr hq hc0 e1
  go_enter Try.func87, Try.ntmps87
  go_wp2_with (go_at_call 51; refine (HC.out).mono ?_; rintro e w' ⟨rfl, hb⟩)
  go_ret
  exact ⟨by rw [← HA.out]; rfl, by (repeat (first | exact Below.refl _ _ | (with_reducible exact Hid.out (by assumption)) | refine below_al ?_ _ | refine below_dr ?_ | refine below_tr ?_ (by assumption) | refine below_tr ?_ (Bel.out (by assumption)) | refine below_tr ?_ (Bel.out (ov_bel _ _)) | refine below_set ?_ (by simp; try omega)))⟩

set_option maxHeartbeats 400000 in
theorem cloStaN (wk : Nat) (x : Int) (B : Nat) (q : Int → Bool) (w : World) (hB : w.cell? ⟨B, 0, none⟩ = some (.func (.func 45) #[.pointer (some ⟨wk, 0, none⟩)] #[]))
    (hq : ∀ (W : World), Below w.heap.size w W → Calls Try.prog 45 #[.pointer (some ⟨wk, 0, none⟩), .int .i64 x] W fun e W' => e = .returned (.bool (q x)) ∧ Below W.heap.size W W') :
    Calls Try.prog 52 #[.int .i64 x, .pointer (some ⟨B, 0, none⟩)] w fun e w' => e = .returned (.bool (!q x)) ∧ Below w.heap.size w w' := by
  have HQ := Lib.hid hq
  have hlt := cell_lt hB
  simp only at hlt
  clear hq
  go_enter Try.func52, Try.ntmps52
  go_wp2_with (go_at_call 45; refine (HQ.out _ (by (repeat (first | exact Below.refl _ _ | (with_reducible exact Hid.out (by assumption)) | refine below_al ?_ _ | refine below_dr ?_ | refine below_tr ?_ (by assumption) | refine below_tr ?_ (Bel.out (by assumption)) | refine below_tr ?_ (Bel.out (ov_bel _ _)) | refine below_set ?_ (by simp; try omega))))).mono ?_; rintro e w' ⟨rfl, hb⟩)
  go_ret
  exact ⟨rfl, by (repeat (first | exact Below.refl _ _ | (with_reducible exact Hid.out (by assumption)) | refine below_al ?_ _ | refine below_dr ?_ | refine below_tr ?_ (by assumption) | refine below_tr ?_ (Bel.out (by assumption)) | refine below_tr ?_ (Bel.out (ov_bel _ _)) | refine below_set ?_ (by simp; try omega)))⟩

set_option maxHeartbeats 400000 in
theorem allStaN (wk : Nat) (A : Option Addr) (cap : Nat) (xs : List Int) (q : Int → Bool) (w : World) (hr : RowAt w A 1 encInt xs) (hn : xs.length ≤ 1000)
    (hq : ∀ (x : Int) (W : World), Below w.heap.size w W → Calls Try.prog 45 #[.pointer (some ⟨wk, 0, none⟩), .int .i64 x] W fun e W' => e = .returned (.bool (q x)) ∧ Below W.heap.size W W') :
    Calls Try.prog 39 #[.slice A xs.length cap, .func (.func 45) #[.pointer (some ⟨wk, 0, none⟩)] #[]] w fun e w' => e = .returned (.bool (xs.all q)) ∧ Below w.heap.size w w' := by
  have e1 : Below w.heap.size w (w.alloc (.cells #[.func (.func 45) #[.pointer (some ⟨wk, 0, none⟩)] #[]] 104)) := by (repeat (first | exact Below.refl _ _ | (with_reducible exact Hid.out (by assumption)) | refine below_al ?_ _ | refine below_dr ?_ | refine below_tr ?_ (by assumption) | refine below_tr ?_ (Bel.out (by assumption)) | refine below_tr ?_ (Bel.out (ov_bel _ _)) | refine below_set ?_ (by simp; try omega)))
  have hc0 : (w.alloc (.cells #[.func (.func 45) #[.pointer (some ⟨wk, 0, none⟩)] #[]] 104)).cell? ⟨w.heap.size, 0, none⟩ = some (.func (.func 45) #[.pointer (some ⟨wk, 0, none⟩)] #[]) := by go_simp
  have HC := Lib.hid (contRInt A cap xs w.heap.size (fun x => !q x) _ (hr.kept (kept_of_below e1)) hn (fun x W hW => cloStaN wk x w.heap.size q W ((kept_of_below hW) _ _ hc0) (fun W' hW' => hq x W' (below_tr (below_tr e1 hW) hW'))))
  have HA : Hid ((!xs.any fun x => !q x) = xs.all q) := Lib.hid (by rw [List.not_any_eq_all_not]; simp)
  clear hr hq hc0 e1
  go_enter Try.func39, Try.ntmps39
  go_wp2_with (go_at_call 51; refine (HC.out).mono ?_; rintro e w' ⟨rfl, hb⟩)
  go_ret
  exact ⟨by rw [← HA.out]; rfl, by (repeat (first | exact Below.refl _ _ | (with_reducible exact Hid.out (by assumption)) | refine below_al ?_ _ | refine below_dr ?_ | refine below_tr ?_ (by assumption) | refine below_tr ?_ (Bel.out (by assumption)) | refine below_tr ?_ (Bel.out (ov_bel _ _)) | refine below_set ?_ (by simp; try omega)))⟩

set_option maxHeartbeats 400000 in
theorem cloTimN (bx : Nat) (x : Int) (B : Nat) (q : Int → Bool) (w : World) (hB : w.cell? ⟨B, 0, none⟩ = some (.func (.func 46) #[] #[.pointer (some ⟨bx, 0, none⟩)]))
    (hq : ∀ (W : World), Below w.heap.size w W → Calls Try.prog 46 #[.int .i64 x, .pointer (some ⟨bx, 0, none⟩)] W fun e W' => e = .returned (.bool (q x)) ∧ Below W.heap.size W W') :
    Calls Try.prog 52 #[.int .i64 x, .pointer (some ⟨B, 0, none⟩)] w fun e w' => e = .returned (.bool (!q x)) ∧ Below w.heap.size w w' := by
  have HQ := Lib.hid hq
  have hlt := cell_lt hB
  simp only at hlt
  clear hq
  go_enter Try.func52, Try.ntmps52
  go_wp2_with (go_at_call 46; refine (HQ.out _ (by (repeat (first | exact Below.refl _ _ | (with_reducible exact Hid.out (by assumption)) | refine below_al ?_ _ | refine below_dr ?_ | refine below_tr ?_ (by assumption) | refine below_tr ?_ (Bel.out (by assumption)) | refine below_tr ?_ (Bel.out (ov_bel _ _)) | refine below_set ?_ (by simp; try omega))))).mono ?_; rintro e w' ⟨rfl, hb⟩)
  go_ret
  exact ⟨rfl, by (repeat (first | exact Below.refl _ _ | (with_reducible exact Hid.out (by assumption)) | refine below_al ?_ _ | refine below_dr ?_ | refine below_tr ?_ (by assumption) | refine below_tr ?_ (Bel.out (by assumption)) | refine below_tr ?_ (Bel.out (ov_bel _ _)) | refine below_set ?_ (by simp; try omega)))⟩

set_option maxHeartbeats 400000 in
theorem allTimN (bx : Nat) (A : Option Addr) (cap : Nat) (xs : List Int) (q : Int → Bool) (w : World) (hr : RowAt w A 1 encInt xs) (hn : xs.length ≤ 1000)
    (hq : ∀ (x : Int) (W : World), Below w.heap.size w W → Calls Try.prog 46 #[.int .i64 x, .pointer (some ⟨bx, 0, none⟩)] W fun e W' => e = .returned (.bool (q x)) ∧ Below W.heap.size W W') :
    Calls Try.prog 39 #[.slice A xs.length cap, .func (.func 46) #[] #[.pointer (some ⟨bx, 0, none⟩)]] w fun e w' => e = .returned (.bool (xs.all q)) ∧ Below w.heap.size w w' := by
  have e1 : Below w.heap.size w (w.alloc (.cells #[.func (.func 46) #[] #[.pointer (some ⟨bx, 0, none⟩)]] 104)) := by (repeat (first | exact Below.refl _ _ | (with_reducible exact Hid.out (by assumption)) | refine below_al ?_ _ | refine below_dr ?_ | refine below_tr ?_ (by assumption) | refine below_tr ?_ (Bel.out (by assumption)) | refine below_tr ?_ (Bel.out (ov_bel _ _)) | refine below_set ?_ (by simp; try omega)))
  have hc0 : (w.alloc (.cells #[.func (.func 46) #[] #[.pointer (some ⟨bx, 0, none⟩)]] 104)).cell? ⟨w.heap.size, 0, none⟩ = some (.func (.func 46) #[] #[.pointer (some ⟨bx, 0, none⟩)]) := by go_simp
  have HC := Lib.hid (contRInt A cap xs w.heap.size (fun x => !q x) _ (hr.kept (kept_of_below e1)) hn (fun x W hW => cloTimN bx x w.heap.size q W ((kept_of_below hW) _ _ hc0) (fun W' hW' => hq x W' (below_tr (below_tr e1 hW) hW'))))
  have HA : Hid ((!xs.any fun x => !q x) = xs.all q) := Lib.hid (by rw [List.not_any_eq_all_not]; simp)
  clear hr hq hc0 e1
  go_enter Try.func39, Try.ntmps39
  go_wp2_with (go_at_call 51; refine (HC.out).mono ?_; rintro e w' ⟨rfl, hb⟩)
  go_ret
  exact ⟨by rw [← HA.out]; rfl, by (repeat (first | exact Below.refl _ _ | (with_reducible exact Hid.out (by assumption)) | refine below_al ?_ _ | refine below_dr ?_ | refine below_tr ?_ (by assumption) | refine below_tr ?_ (Bel.out (by assumption)) | refine below_tr ?_ (Bel.out (ov_bel _ _)) | refine below_set ?_ (by simp; try omega)))⟩

set_option maxHeartbeats 400000 in
theorem idxCas (A : Option Addr) (cap : Nat) (xs : List (List Clo)) (B : Nat) (p : List Clo → Bool) (w : World) (hr : CasesAt w A xs) (hn : xs.length ≤ 1000)
    (hp : ∀ (x : List Clo) (A2 : Option Addr) (c2 : Nat) (W : World), Below w.heap.size w W → RowAt W A2 8 encClo x → x.length ≤ c2 → x.length ≤ 7 → Calls Try.prog 78 #[.slice A2 x.length c2, .pointer (some ⟨B, 0, none⟩)] W fun e W' => e = .returned (.bool (p x)) ∧ Below W.heap.size W W') :
    Calls Try.prog 96 #[.slice A xs.length cap, .func (.func 78) #[] #[.pointer (some ⟨B, 0, none⟩)]] w
      fun e w' => e = .returned (.int .i64 (idxF p xs)) ∧ Below w.heap.size w w' := by
  have HR := Lib.hid hr
  have HP := Lib.hid hp
  clear hr hp
  go_enter Try.func96, Try.ntmps96
  go_wp2
  go_loopw [8] (fun i wr => ∃ k : Nat, k ≤ xs.length ∧ i = .int .i64 k ∧ Hid (∀ (j : Nat) (y : List Clo), j < k → xs[j]? = some y → p y = false) ∧ Hid (Below w.heap.size w wr))
    (fun i _ => xs.length - (intOf i).toNat)
  case atStart => exact ⟨0, Nat.zero_le _, rfl, Lib.hid (by intro j y hj; omega), Lib.hid (Below.refl _ _)⟩
  case round =>
    obtain ⟨k, hk, rfl, HN, HB⟩ := hrel
    by_cases hlt : k < xs.length
    · have hx := List.getElem?_eq_getElem hlt
      obtain ⟨b, o, A2, c2, hA, e0, hk2, hk7, hr2⟩ := (HR.out.kept (kept_of_below HB.out)) k _ hx
      generalize xs[k] = x at *
      subst hA
      have HX := Lib.hid hx
      clear hx
      have HC := Lib.hid (HP.out x A2 c2 wr HB.out hr2 hk2 hk7)
      clear hr2
      cases hpx : p x with
      | true =>
        go_wp2_with (go_at_call 78; refine (HC.out).mono ?_; rintro e w' ⟨rfl, hb⟩)
        go_ret
        refine ⟨?_, below_tr HB.out hb⟩
        rw [idxF_at p xs k x HX.out hpx HN.out]; rfl
      | false =>
        go_wp2_with (go_at_call 78; refine (HC.out).mono ?_; rintro e w' ⟨rfl, hb⟩)
        go_roundw
        case rel => exact ⟨k + 1, by omega, by go_num, Lib.hid (by
          intro j y hj hy
          by_cases hjk : j = k
          · subst hjk; rw [HX.out] at hy; cases hy; exact hpx
          · exact HN.out j y (by omega) hy), Lib.hid (below_tr HB.out hb)⟩
        case measure => simp [intOf]; omega
    · go_wp2
      go_ret
      refine ⟨?_, HB.out⟩
      rw [idxF_none p xs (fun j y hy => HN.out j y (by have := (List.getElem?_eq_some_iff.1 hy).1; omega) hy)]; rfl

set_option maxHeartbeats 400000 in
theorem contCas (A : Option Addr) (cap : Nat) (xs : List (List Clo)) (B : Nat) (p : List Clo → Bool) (w : World) (hr : CasesAt w A xs) (hn : xs.length ≤ 1000)
    (hp : ∀ (x : List Clo) (A2 : Option Addr) (c2 : Nat) (W : World), Below w.heap.size w W → RowAt W A2 8 encClo x → x.length ≤ c2 → x.length ≤ 7 → Calls Try.prog 78 #[.slice A2 x.length c2, .pointer (some ⟨B, 0, none⟩)] W fun e W' => e = .returned (.bool (p x)) ∧ Below W.heap.size W W') :
    Calls Try.prog 77 #[.slice A xs.length cap, .func (.func 78) #[] #[.pointer (some ⟨B, 0, none⟩)]] w
      fun e w' => e = .returned (.bool (xs.any p)) ∧ Below w.heap.size w w' := by
  have HC := Lib.hid (idxCas A cap xs B p w hr hn hp)
  have HA := Lib.hid (idxF_any p xs).1
  clear hr hp
  go_enter Try.func77, Try.ntmps77
  go_wp2_with (go_at_call 96; refine (HC.out).mono ?_; rintro e w' ⟨rfl, hb⟩)
  go_ret
  exact ⟨by rw [← HA.out]; rfl, hb⟩

set_option maxHeartbeats 400000 in
theorem cloFew  (x : List Clo) (A2 : Option Addr) (c2 : Nat) (B : Nat) (q : List Clo → Bool) (w : World) (hr2 : RowAt w A2 8 encClo x) (hB : w.cell? ⟨B, 0, none⟩ = some (.func (.func 56) #[] #[]))
    (hq : ∀ (W : World), Below w.heap.size w W → RowAt W A2 8 encClo x → Calls Try.prog 56 #[.slice A2 x.length c2] W fun e W' => e = .returned (.bool (q x)) ∧ Below W.heap.size W W') :
    Calls Try.prog 78 #[.slice A2 x.length c2, .pointer (some ⟨B, 0, none⟩)] w fun e w' => e = .returned (.bool (!q x)) ∧ Below w.heap.size w w' := by
  have HQ := Lib.hid hq
  have hlt := cell_lt hB
  simp only at hlt
  have HR := Lib.hid hr2
  clear hq hr2
  go_enter Try.func78, Try.ntmps78
  go_wp2_with (go_at_call 56; refine (HQ.out _ (by (repeat (first | exact Below.refl _ _ | (with_reducible exact Hid.out (by assumption)) | refine below_al ?_ _ | refine below_dr ?_ | refine below_tr ?_ (by assumption) | refine below_tr ?_ (Bel.out (by assumption)) | refine below_tr ?_ (Bel.out (ov_bel _ _)) | refine below_set ?_ (by simp; try omega)))) (HR.out.kept (kept_of_below (by (repeat (first | exact Below.refl _ _ | (with_reducible exact Hid.out (by assumption)) | refine below_al ?_ _ | refine below_dr ?_ | refine below_tr ?_ (by assumption) | refine below_tr ?_ (Bel.out (by assumption)) | refine below_tr ?_ (Bel.out (ov_bel _ _)) | refine below_set ?_ (by simp; try omega))))))).mono ?_; rintro e w' ⟨rfl, hb⟩)
  go_ret
  exact ⟨rfl, by (repeat (first | exact Below.refl _ _ | (with_reducible exact Hid.out (by assumption)) | refine below_al ?_ _ | refine below_dr ?_ | refine below_tr ?_ (by assumption) | refine below_tr ?_ (Bel.out (by assumption)) | refine below_tr ?_ (Bel.out (ov_bel _ _)) | refine below_set ?_ (by simp; try omega)))⟩

set_option maxHeartbeats 400000 in
theorem allFew  (A : Option Addr) (cap : Nat) (xs : List (List Clo)) (q : List Clo → Bool) (w : World) (hr : CasesAt w A xs) (hn : xs.length ≤ 1000)
    (hq : ∀ (x : List Clo) (A2 : Option Addr) (c2 : Nat) (W : World), Below w.heap.size w W → RowAt W A2 8 encClo x → x.length ≤ c2 → x.length ≤ 7 → Calls Try.prog 56 #[.slice A2 x.length c2] W fun e W' => e = .returned (.bool (q x)) ∧ Below W.heap.size W W') :
    Calls Try.prog 59 #[.slice A xs.length cap, .func (.func 56) #[] #[]] w fun e w' => e = .returned (.bool (xs.all q)) ∧ Below w.heap.size w w' := by
  have e1 : Below w.heap.size w (w.alloc (.cells #[.func (.func 56) #[] #[]] 124)) := by (repeat (first | exact Below.refl _ _ | (with_reducible exact Hid.out (by assumption)) | refine below_al ?_ _ | refine below_dr ?_ | refine below_tr ?_ (by assumption) | refine below_tr ?_ (Bel.out (by assumption)) | refine below_tr ?_ (Bel.out (ov_bel _ _)) | refine below_set ?_ (by simp; try omega)))
  have hc0 : (w.alloc (.cells #[.func (.func 56) #[] #[]] 124)).cell? ⟨w.heap.size, 0, none⟩ = some (.func (.func 56) #[] #[]) := by go_simp
  have HC := Lib.hid (contCas A cap xs w.heap.size (fun x => !q x) _ (hr.kept (kept_of_below e1)) hn (fun x A2 c2 W hW hr2 hk2 hk7 => cloFew  x A2 c2 w.heap.size q W hr2 ((kept_of_below hW) _ _ hc0) (fun W' hW' hr3 => hq x A2 c2 W' (below_tr (below_tr e1 hW) hW') hr3 hk2 hk7)))
  have HA : Hid ((!xs.any fun x => !q x) = xs.all q) := Lib.hid (by rw [List.not_any_eq_all_not]; simp)
  clear hr hq hc0 e1
  go_enter Try.func59, Try.ntmps59
  go_wp2_with (go_at_call 77; refine (HC.out).mono ?_; rintro e w' ⟨rfl, hb⟩)
  go_ret
  exact ⟨by rw [← HA.out]; rfl, by (repeat (first | exact Below.refl _ _ | (with_reducible exact Hid.out (by assumption)) | refine below_al ?_ _ | refine below_dr ?_ | refine below_tr ?_ (by assumption) | refine below_tr ?_ (Bel.out (by assumption)) | refine below_tr ?_ (Bel.out (ov_bel _ _)) | refine below_set ?_ (by simp; try omega)))⟩

set_option maxHeartbeats 400000 in
theorem cloClos (bx : Nat) (x : List Clo) (A2 : Option Addr) (c2 : Nat) (B : Nat) (q : List Clo → Bool) (w : World) (hr2 : RowAt w A2 8 encClo x) (hB : w.cell? ⟨B, 0, none⟩ = some (.func (.func 57) #[] #[.pointer (some ⟨bx, 0, none⟩)]))
    (hq : ∀ (W : World), Below w.heap.size w W → RowAt W A2 8 encClo x → Calls Try.prog 57 #[.slice A2 x.length c2, .pointer (some ⟨bx, 0, none⟩)] W fun e W' => e = .returned (.bool (q x)) ∧ Below W.heap.size W W') :
    Calls Try.prog 78 #[.slice A2 x.length c2, .pointer (some ⟨B, 0, none⟩)] w fun e w' => e = .returned (.bool (!q x)) ∧ Below w.heap.size w w' := by
  have HQ := Lib.hid hq
  have hlt := cell_lt hB
  simp only at hlt
  have HR := Lib.hid hr2
  clear hq hr2
  go_enter Try.func78, Try.ntmps78
  go_wp2_with (go_at_call 57; refine (HQ.out _ (by (repeat (first | exact Below.refl _ _ | (with_reducible exact Hid.out (by assumption)) | refine below_al ?_ _ | refine below_dr ?_ | refine below_tr ?_ (by assumption) | refine below_tr ?_ (Bel.out (by assumption)) | refine below_tr ?_ (Bel.out (ov_bel _ _)) | refine below_set ?_ (by simp; try omega)))) (HR.out.kept (kept_of_below (by (repeat (first | exact Below.refl _ _ | (with_reducible exact Hid.out (by assumption)) | refine below_al ?_ _ | refine below_dr ?_ | refine below_tr ?_ (by assumption) | refine below_tr ?_ (Bel.out (by assumption)) | refine below_tr ?_ (Bel.out (ov_bel _ _)) | refine below_set ?_ (by simp; try omega))))))).mono ?_; rintro e w' ⟨rfl, hb⟩)
  go_ret
  exact ⟨rfl, by (repeat (first | exact Below.refl _ _ | (with_reducible exact Hid.out (by assumption)) | refine below_al ?_ _ | refine below_dr ?_ | refine below_tr ?_ (by assumption) | refine below_tr ?_ (Bel.out (by assumption)) | refine below_tr ?_ (Bel.out (ov_bel _ _)) | refine below_set ?_ (by simp; try omega)))⟩

set_option maxHeartbeats 400000 in
theorem allClos (bx : Nat) (A : Option Addr) (cap : Nat) (xs : List (List Clo)) (q : List Clo → Bool) (w : World) (hr : CasesAt w A xs) (hn : xs.length ≤ 1000)
    (hq : ∀ (x : List Clo) (A2 : Option Addr) (c2 : Nat) (W : World), Below w.heap.size w W → RowAt W A2 8 encClo x → x.length ≤ c2 → x.length ≤ 7 → Calls Try.prog 57 #[.slice A2 x.length c2, .pointer (some ⟨bx, 0, none⟩)] W fun e W' => e = .returned (.bool (q x)) ∧ Below W.heap.size W W') :
    Calls Try.prog 59 #[.slice A xs.length cap, .func (.func 57) #[] #[.pointer (some ⟨bx, 0, none⟩)]] w fun e w' => e = .returned (.bool (xs.all q)) ∧ Below w.heap.size w w' := by
  have e1 : Below w.heap.size w (w.alloc (.cells #[.func (.func 57) #[] #[.pointer (some ⟨bx, 0, none⟩)]] 124)) := by (repeat (first | exact Below.refl _ _ | (with_reducible exact Hid.out (by assumption)) | refine below_al ?_ _ | refine below_dr ?_ | refine below_tr ?_ (by assumption) | refine below_tr ?_ (Bel.out (by assumption)) | refine below_tr ?_ (Bel.out (ov_bel _ _)) | refine below_set ?_ (by simp; try omega)))
  have hc0 : (w.alloc (.cells #[.func (.func 57) #[] #[.pointer (some ⟨bx, 0, none⟩)]] 124)).cell? ⟨w.heap.size, 0, none⟩ = some (.func (.func 57) #[] #[.pointer (some ⟨bx, 0, none⟩)]) := by go_simp
  have HC := Lib.hid (contCas A cap xs w.heap.size (fun x => !q x) _ (hr.kept (kept_of_below e1)) hn (fun x A2 c2 W hW hr2 hk2 hk7 => cloClos bx x A2 c2 w.heap.size q W hr2 ((kept_of_below hW) _ _ hc0) (fun W' hW' hr3 => hq x A2 c2 W' (below_tr (below_tr e1 hW) hW') hr3 hk2 hk7)))
  have HA : Hid ((!xs.any fun x => !q x) = xs.all q) := Lib.hid (by rw [List.not_any_eq_all_not]; simp)
  clear hr hq hc0 e1
  go_enter Try.func59, Try.ntmps59
  go_wp2_with (go_at_call 77; refine (HC.out).mono ?_; rintro e w' ⟨rfl, hb⟩)
  go_ret
  exact ⟨by rw [← HA.out]; rfl, by (repeat (first | exact Below.refl _ _ | (with_reducible exact Hid.out (by assumption)) | refine below_al ?_ _ | refine below_dr ?_ | refine below_tr ?_ (by assumption) | refine below_tr ?_ (Bel.out (by assumption)) | refine below_tr ?_ (Bel.out (ov_bel _ _)) | refine below_set ?_ (by simp; try omega)))⟩
/- RelayTables alone -/

set_option maxHeartbeats 400000 in
theorem cloTabN (bx : Nat) (x : Int) (B : Nat) (q : Int → Bool) (w : World) (hB : w.cell? ⟨B, 0, none⟩ = some (.func (.func 40) #[] #[.pointer (some ⟨bx, 0, none⟩)]))
    (hq : ∀ (W : World), Below w.heap.size w W → Calls Try.prog 40 #[.int .i64 x, .pointer (some ⟨bx, 0, none⟩)] W fun e W' => e = .returned (.bool (q x)) ∧ Below W.heap.size W W') :
    Calls Try.prog 52 #[.int .i64 x, .pointer (some ⟨B, 0, none⟩)] w fun e w' => e = .returned (.bool (!q x)) ∧ Below w.heap.size w w' := by
  have HQ := Lib.hid hq
  have hlt := cell_lt hB
  simp only at hlt
  clear hq
  go_enter Try.func52, Try.ntmps52
  go_wp2_with (go_at_call 40; refine (HQ.out _ (by (repeat (first | exact Below.refl _ _ | (with_reducible exact Hid.out (by assumption)) | refine below_al ?_ _ | refine below_dr ?_ | refine below_tr ?_ (by assumption) | refine below_tr ?_ (Bel.out (by assumption)) | refine below_tr ?_ (Bel.out (ov_bel _ _)) | refine below_set ?_ (by simp; try omega))))).mono ?_; rintro e w' ⟨rfl, hb⟩)
  go_ret
  exact ⟨rfl, by (repeat (first | exact Below.refl _ _ | (with_reducible exact Hid.out (by assumption)) | refine below_al ?_ _ | refine below_dr ?_ | refine below_tr ?_ (by assumption) | refine below_tr ?_ (Bel.out (by assumption)) | refine below_tr ?_ (Bel.out (ov_bel _ _)) | refine below_set ?_ (by simp; try omega)))⟩

set_option maxHeartbeats 400000 in
theorem allTabN (bx : Nat) (A : Option Addr) (cap : Nat) (xs : List Int) (q : Int → Bool) (w : World) (hr : RowAt w A 1 encInt xs) (hn : xs.length ≤ 1000)
    (hq : ∀ (x : Int) (W : World), Below w.heap.size w W → Calls Try.prog 40 #[.int .i64 x, .pointer (some ⟨bx, 0, none⟩)] W fun e W' => e = .returned (.bool (q x)) ∧ Below W.heap.size W W') :
    Calls Try.prog 39 #[.slice A xs.length cap, .func (.func 40) #[] #[.pointer (some ⟨bx, 0, none⟩)]] w fun e w' => e = .returned (.bool (xs.all q)) ∧ Below w.heap.size w w' := by
  have e1 : Below w.heap.size w (w.alloc (.cells #[.func (.func 40) #[] #[.pointer (some ⟨bx, 0, none⟩)]] 104)) := by (repeat (first | exact Below.refl _ _ | (with_reducible exact Hid.out (by assumption)) | refine below_al ?_ _ | refine below_dr ?_ | refine below_tr ?_ (by assumption) | refine below_tr ?_ (Bel.out (by assumption)) | refine below_tr ?_ (Bel.out (ov_bel _ _)) | refine below_set ?_ (by simp; try omega)))
  have hc0 : (w.alloc (.cells #[.func (.func 40) #[] #[.pointer (some ⟨bx, 0, none⟩)]] 104)).cell? ⟨w.heap.size, 0, none⟩ = some (.func (.func 40) #[] #[.pointer (some ⟨bx, 0, none⟩)]) := by go_simp
  have HC := Lib.hid (contRInt A cap xs w.heap.size (fun x => !q x) _ (hr.kept (kept_of_below e1)) hn (fun x W hW => cloTabN bx x w.heap.size q W ((kept_of_below hW) _ _ hc0) (fun W' hW' => hq x W' (below_tr (below_tr e1 hW) hW'))))
  have HA : Hid ((!xs.any fun x => !q x) = xs.all q) := Lib.hid (by rw [List.not_any_eq_all_not]; simp)
  clear hr hq hc0 e1
  go_enter Try.func39, Try.ntmps39
  go_wp2_with (go_at_call 51; refine (HC.out).mono ?_; rintro e w' ⟨rfl, hb⟩)
  go_ret
  exact ⟨by rw [← HA.out]; rfl, by (repeat (first | exact Below.refl _ _ | (with_reducible exact Hid.out (by assumption)) | refine below_al ?_ _ | refine below_dr ?_ | refine below_tr ?_ (by assumption) | refine below_tr ?_ (Bel.out (by assumption)) | refine below_tr ?_ (Bel.out (ov_bel _ _)) | refine below_set ?_ (by simp; try omega)))⟩

end Go.Proofs.Ytdfohielnfdmkaa

/- Walks: what is valid in a land (package hill): walls, suns, clouds. -/
set_option linter.unusedVariables false
set_option linter.unusedSimpArgs false
namespace Go.Proofs.Ytdfohielnfdmkaa
open Go.RowKit
attribute [local go_sem low] cell_alloc_ite frozen_alloc_ite

set_option maxHeartbeats 400000 in
theorem ends_any (x1 y1 x2 y2 b t : Int) (w : World) :
    Calls Try.prog 94 #[.agg #[.int .i64 x1, .int .i64 y1, .int .i64 x2, .int .i64 y2, .int .i64 b, .int .i64 t]] w
      fun e w' => e = .returned (.tuple #[.agg #[.int .i64 x1, .int .i64 y1], .agg #[.int .i64 x2, .int .i64 y2]]) ∧ Below w.heap.size w w' := by
  go_enter Try.func94, Try.ntmps94
  go_wp2
  go_region
  go_wp2
  refine bodyPost_ret (v := .tuple #[.agg #[.int .i64 x1, .int .i64 y1], .agg #[.int .i64 x2, .int .i64 y2]]) (by simp [results, Try.results94, go_sem]) rfl ⟨rfl, ?_⟩
  exact ((((Below.refl _ _).alloc (Nat.le_refl _) _).alloc (by simp) _).alloc (by simp; omega) _).drew

set_option maxHeartbeats 400000 in
theorem staValid_any (x y z m : Int) (w : World) :
    Calls Try.prog 61 #[.agg #[.int .i64 x, .int .i64 y, .int .i64 z, .int .i64 m]] w fun e w' => e = .returned (.bool (staOk ⟨x, y, z, m⟩)) ∧ Below w.heap.size w w' := by
  rcases Bool.eq_false_or_eq_true (onMap x y) with hb0 | hb0
  · rcases Bool.eq_false_or_eq_true (inR z 0 1000) with hb1 | hb1
    · go_enter Try.func61, Try.ntmps61
      go_wp2_with (first | (go_at_call 74; refine (within_any _ _ _ _).mono ?_; rintro e w' ⟨rfl, rfl⟩) | (go_at_call 81; refine (place_any _ _ _ _ _).mono ?_; rintro e w' ⟨rfl, hb⟩; obtain ⟨hc, hf⟩ := bcell hb; have hz := hb.size; try simp at hz) | (go_at_call 82; refine (on_any _ _ _).mono ?_; rintro e w' ⟨rfl, hb⟩; obtain ⟨hc, hf⟩ := bcell hb; have hz := hb.size; try simp at hz))
      go_ret
      exact ⟨by simp_all [staOk, onMap], by (repeat (first | exact Below.refl _ _ | (with_reducible exact Hid.out (by assumption)) | refine below_al ?_ _ | refine below_dr ?_ | refine below_tr ?_ (by assumption) | refine below_tr ?_ (Bel.out (by assumption)) | refine below_tr ?_ (Bel.out (ov_bel _ _)) | refine below_set ?_ (by simp; try omega)))⟩
    · go_enter Try.func61, Try.ntmps61
      go_wp2_with (first | (go_at_call 74; refine (within_any _ _ _ _).mono ?_; rintro e w' ⟨rfl, rfl⟩) | (go_at_call 81; refine (place_any _ _ _ _ _).mono ?_; rintro e w' ⟨rfl, hb⟩; obtain ⟨hc, hf⟩ := bcell hb; have hz := hb.size; try simp at hz) | (go_at_call 82; refine (on_any _ _ _).mono ?_; rintro e w' ⟨rfl, hb⟩; obtain ⟨hc, hf⟩ := bcell hb; have hz := hb.size; try simp at hz))
      go_ret
      exact ⟨by simp_all [staOk, onMap], by (repeat (first | exact Below.refl _ _ | (with_reducible exact Hid.out (by assumption)) | refine below_al ?_ _ | refine below_dr ?_ | refine below_tr ?_ (by assumption) | refine below_tr ?_ (Bel.out (by assumption)) | refine below_tr ?_ (Bel.out (ov_bel _ _)) | refine below_set ?_ (by simp; try omega)))⟩
  · go_enter Try.func61, Try.ntmps61
    go_wp2_with (first | (go_at_call 74; refine (within_any _ _ _ _).mono ?_; rintro e w' ⟨rfl, rfl⟩) | (go_at_call 81; refine (place_any _ _ _ _ _).mono ?_; rintro e w' ⟨rfl, hb⟩; obtain ⟨hc, hf⟩ := bcell hb; have hz := hb.size; try simp at hz) | (go_at_call 82; refine (on_any _ _ _).mono ?_; rintro e w' ⟨rfl, hb⟩; obtain ⟨hc, hf⟩ := bcell hb; have hz := hb.size; try simp at hz))
    go_ret
    exact ⟨by simp_all [staOk, onMap], by (repeat (first | exact Below.refl _ _ | (with_reducible exact Hid.out (by assumption)) | refine below_al ?_ _ | refine below_dr ?_ | refine below_tr ?_ (by assumption) | refine below_tr ?_ (Bel.out (by assumption)) | refine below_tr ?_ (Bel.out (ov_bel _ _)) | refine below_set ?_ (by simp; try omega)))⟩

theorem eq_place (w : World) (a b c d : Int) : (Op.equalIn 10000 144 (.agg #[.int .i64 a, .int .i64 b]) (.agg #[.int .i64 c, .int .i64 d])).run Try.prog w = .ok (decide (a = c) && decide (b = d)) w := by
  rw [show (10000 : Nat) = 9999 + 1 from rfl, Op.equalIn]
  simp [go_sem, List.range'_succ]
  by_cases h1 : a = c <;> by_cases h2 : b = d <;> simp [h1, h2]
def nePl (a b c d : Int) : Bool := !(decide (a = c) && decide (b = d))
theorem neq_place (w : World) (a b c d : Int) : (binOp .neq 144 (.agg #[.int .i64 a, .int .i64 b]) (.agg #[.int .i64 c, .int .i64 d])).run Try.prog w = .ok (.bool (nePl a b c d)) w := by
  rw [run_neq_struct, eq_place]; rfl
theorem eql_place (w : World) (a b c d : Int) : (binOp .eql 144 (.agg #[.int .i64 a, .int .i64 b]) (.agg #[.int .i64 c, .int .i64 d])).run Try.prog w = .ok (.bool (decide (a = c) && decide (b = d))) w := by
  rw [run_eql_struct, eq_place]; rfl

set_option maxHeartbeats 400000 in
theorem walValid_any (x1 y1 x2 y2 b t : Int) (w : World) :
    Calls Try.prog 73 #[.agg #[.int .i64 x1, .int .i64 y1, .int .i64 x2, .int .i64 y2, .int .i64 b, .int .i64 t]] w fun e w' => e = .returned (.bool (walOk ⟨x1, y1, x2, y2, b, t⟩)) ∧ Below w.heap.size w w' := by
  rcases Bool.eq_false_or_eq_true (onMap x1 y1) with hb0 | hb0
  · rcases Bool.eq_false_or_eq_true (onMap x2 y2) with hb1 | hb1
    · rcases Bool.eq_false_or_eq_true (nePl x1 y1 x2 y2) with hb2 | hb2
      · rcases Bool.eq_false_or_eq_true (inR b 0 t) with hb3 | hb3
        · have hne := fun w => neq_place w x1 y1 x2 y2
          go_enter Try.func73, Try.ntmps73
          go_wp2_with (first | (go_at_call 74; refine (within_any _ _ _ _).mono ?_; rintro e w' ⟨rfl, rfl⟩) | (go_at_call 94; refine (ends_any _ _ _ _ _ _ _).mono ?_; rintro e w' ⟨rfl, hb⟩; obtain ⟨hc, hf⟩ := bcell hb; have hz := hb.size; try simp at hz) | (go_at_call 82; refine (on_any _ _ _).mono ?_; rintro e w' ⟨rfl, hb⟩; obtain ⟨hc, hf⟩ := bcell hb; have hz := hb.size; try simp at hz))
          go_ret
          exact ⟨by simp_all [walOk, nePl], by (repeat (first | exact Below.refl _ _ | (with_reducible exact Hid.out (by assumption)) | refine below_al ?_ _ | refine below_dr ?_ | refine below_tr ?_ (by assumption) | refine below_tr ?_ (Bel.out (by assumption)) | refine below_tr ?_ (Bel.out (ov_bel _ _)) | refine below_set ?_ (by simp; try omega)))⟩
        · have hne := fun w => neq_place w x1 y1 x2 y2
          go_enter Try.func73, Try.ntmps73
          go_wp2_with (first | (go_at_call 74; refine (within_any _ _ _ _).mono ?_; rintro e w' ⟨rfl, rfl⟩) | (go_at_call 94; refine (ends_any _ _ _ _ _ _ _).mono ?_; rintro e w' ⟨rfl, hb⟩; obtain ⟨hc, hf⟩ := bcell hb; have hz := hb.size; try simp at hz) | (go_at_call 82; refine (on_any _ _ _).mono ?_; rintro e w' ⟨rfl, hb⟩; obtain ⟨hc, hf⟩ := bcell hb; have hz := hb.size; try simp at hz))
          go_ret
          exact ⟨by simp_all [walOk, nePl], by (repeat (first | exact Below.refl _ _ | (with_reducible exact Hid.out (by assumption)) | refine below_al ?_ _ | refine below_dr ?_ | refine below_tr ?_ (by assumption) | refine below_tr ?_ (Bel.out (by assumption)) | refine below_tr ?_ (Bel.out (ov_bel _ _)) | refine below_set ?_ (by simp; try omega)))⟩
      · have hne := fun w => neq_place w x1 y1 x2 y2
        go_enter Try.func73, Try.ntmps73
        go_wp2_with (first | (go_at_call 74; refine (within_any _ _ _ _).mono ?_; rintro e w' ⟨rfl, rfl⟩) | (go_at_call 94; refine (ends_any _ _ _ _ _ _ _).mono ?_; rintro e w' ⟨rfl, hb⟩; obtain ⟨hc, hf⟩ := bcell hb; have hz := hb.size; try simp at hz) | (go_at_call 82; refine (on_any _ _ _).mono ?_; rintro e w' ⟨rfl, hb⟩; obtain ⟨hc, hf⟩ := bcell hb; have hz := hb.size; try simp at hz))
        go_ret
        exact ⟨by simp_all [walOk, nePl], by (repeat (first | exact Below.refl _ _ | (with_reducible exact Hid.out (by assumption)) | refine below_al ?_ _ | refine below_dr ?_ | refine below_tr ?_ (by assumption) | refine below_tr ?_ (Bel.out (by assumption)) | refine below_tr ?_ (Bel.out (ov_bel _ _)) | refine below_set ?_ (by simp; try omega)))⟩
    · have hne := fun w => neq_place w x1 y1 x2 y2
      go_enter Try.func73, Try.ntmps73
      go_wp2_with (first | (go_at_call 74; refine (within_any _ _ _ _).mono ?_; rintro e w' ⟨rfl, rfl⟩) | (go_at_call 94; refine (ends_any _ _ _ _ _ _ _).mono ?_; rintro e w' ⟨rfl, hb⟩; obtain ⟨hc, hf⟩ := bcell hb; have hz := hb.size; try simp at hz) | (go_at_call 82; refine (on_any _ _ _).mono ?_; rintro e w' ⟨rfl, hb⟩; obtain ⟨hc, hf⟩ := bcell hb; have hz := hb.size; try simp at hz))
      go_ret
      exact ⟨by simp_all [walOk, nePl], by (repeat (first | exact Below.refl _ _ | (with_reducible exact Hid.out (by assumption)) | refine below_al ?_ _ | refine below_dr ?_ | refine below_tr ?_ (by assumption) | refine below_tr ?_ (Bel.out (by assumption)) | refine below_tr ?_ (Bel.out (ov_bel _ _)) | refine below_set ?_ (by simp; try omega)))⟩
  · have hne := fun w => neq_place w x1 y1 x2 y2
    go_enter Try.func73, Try.ntmps73
    go_wp2_with (first | (go_at_call 74; refine (within_any _ _ _ _).mono ?_; rintro e w' ⟨rfl, rfl⟩) | (go_at_call 94; refine (ends_any _ _ _ _ _ _ _).mono ?_; rintro e w' ⟨rfl, hb⟩; obtain ⟨hc, hf⟩ := bcell hb; have hz := hb.size; try simp at hz) | (go_at_call 82; refine (on_any _ _ _).mono ?_; rintro e w' ⟨rfl, hb⟩; obtain ⟨hc, hf⟩ := bcell hb; have hz := hb.size; try simp at hz))
    go_ret
    exact ⟨by simp_all [walOk, nePl], by (repeat (first | exact Below.refl _ _ | (with_reducible exact Hid.out (by assumption)) | refine below_al ?_ _ | refine below_dr ?_ | refine below_tr ?_ (by assumption) | refine below_tr ?_ (Bel.out (by assumption)) | refine below_tr ?_ (Bel.out (ov_bel _ _)) | refine below_set ?_ (by simp; try omega)))⟩
end Go.Proofs.Ytdfohielnfdmkaa

/- Walks: what is valid in a land (package hill): ridges, suns, clouds. -/
set_option linter.unusedVariables false
set_option linter.unusedSimpArgs false
namespace Go.Proofs.Ytdfohielnfdmkaa
open Go.RowKit
attribute [local go_sem low] cell_alloc_ite frozen_alloc_ite

set_option maxHeartbeats 400000 in
theorem ridge_any (x1 y1 x2 y2 b t : Int) (w : World) :
    Calls Try.prog 64 #[.agg #[.int .i64 x1, .int .i64 y1, .int .i64 x2, .int .i64 y2, .int .i64 b, .int .i64 t]] w fun e w' => e = .returned (.bool (ridOk ⟨x1, y1, x2, y2, b, t⟩)) ∧ Below w.heap.size w w' := by
  rcases Bool.eq_false_or_eq_true (walOk ⟨x1, y1, x2, y2, b, t⟩) with hb0 | hb0
  · go_enter Try.func64, Try.ntmps64
    go_wp2_with ((go_at_call 73; refine (walValid_any _ _ _ _ _ _ _).mono ?_; rintro e w' ⟨rfl, hb⟩; obtain ⟨hc, hf⟩ := bcell hb; have hz := hb.size; try simp at hz))
    go_ret
    exact ⟨by (simp_all [ridOk] <;> rfl), by (repeat (first | exact Below.refl _ _ | (with_reducible exact Hid.out (by assumption)) | refine below_al ?_ _ | refine below_dr ?_ | refine below_tr ?_ (by assumption) | refine below_tr ?_ (Bel.out (by assumption)) | refine below_tr ?_ (Bel.out (ov_bel _ _)) | refine below_set ?_ (by simp; try omega)))⟩
  · go_enter Try.func64, Try.ntmps64
    go_wp2_with ((go_at_call 73; refine (walValid_any _ _ _ _ _ _ _).mono ?_; rintro e w' ⟨rfl, hb⟩; obtain ⟨hc, hf⟩ := bcell hb; have hz := hb.size; try simp at hz))
    go_ret
    exact ⟨by (simp_all [ridOk] <;> rfl), by (repeat (first | exact Below.refl _ _ | (with_reducible exact Hid.out (by assumption)) | refine below_al ?_ _ | refine below_dr ?_ | refine below_tr ?_ (by assumption) | refine below_tr ?_ (Bel.out (by assumption)) | refine below_tr ?_ (Bel.out (ov_bel _ _)) | refine below_set ?_ (by simp; try omega)))⟩

set_option maxHeartbeats 400000 in
theorem sunN_any (n : Int) (w : World) :
    Calls Try.prog 88 #[.int .i64 n] w fun e w' => e = .returned (.bool (inR n (-100) 100)) ∧ Below w.heap.size w w' := by
  go_enter Try.func88, Try.ntmps88
  go_wp2_with ((go_at_call 74; refine (within_any _ _ _ _).mono ?_; rintro e w' ⟨rfl, rfl⟩))
  go_ret
  exact ⟨rfl, Below.refl _ _⟩

set_option maxHeartbeats 400000 in
theorem sunValid_any (e n u : Int) (w : World) :
    Calls Try.prog 66 #[.agg #[.int .i64 e, .int .i64 n, .int .i64 u]] w fun r w' => r = .returned (.bool (sunOk ⟨e, n, u⟩)) ∧ Below w.heap.size w w' := by
  go_enter Try.func66, Try.ntmps66
  go_wp2_with fail
  refine (allSunN (some ⟨w.heap.size + 1, 0, none⟩) 3 [e, n, u] (fun n => inR n (-100) 100) _ (rowInts3 (by go_simp) (by go_simp) (by go_simp)) (by simp) (fun x W _ => sunN_any x W)).mono ?_
  rintro r w' ⟨rfl, hb⟩
  go_wp2
  go_ret
  exact ⟨by simp [sunOk, Bool.and_assoc], by (repeat (first | exact Below.refl _ _ | (with_reducible exact Hid.out (by assumption)) | refine below_al ?_ _ | refine below_dr ?_ | refine below_tr ?_ (by assumption) | refine below_tr ?_ (Bel.out (by assumption)) | refine below_tr ?_ (Bel.out (ov_bel _ _)) | refine below_set ?_ (by simp; try omega)))⟩

set_option maxHeartbeats 400000 in
theorem few_any (A : Option Addr) (n c : Nat) (w : World) (hn : n ≤ 7) :
    Calls Try.prog 56 #[.slice A n c] w fun r w' => r = .returned (.bool (decide (n ≤ 4))) ∧ Below w.heap.size w w' := by
  go_enter Try.func56, Try.ntmps56
  go_wp2
  go_ret
  exact ⟨by simp; omega, Below.refl _ _⟩

set_option maxHeartbeats 400000 in
theorem cloud_any (V : LV) (L : Lnd) (c : Clo) (w : World) (h3 : L.su.length ≤ 15) :
    Calls Try.prog 55 #[vLnd V L, .agg #[.int .i64 c.w.x1, .int .i64 c.w.y1, .int .i64 c.w.x2, .int .i64 c.w.y2, .int .i64 c.w.b, .int .i64 c.w.t, .int .i64 c.f, .int .i64 c.t]] w
      fun r w' => r = .returned (.bool (cloOk L.su.length c)) ∧ Below w.heap.size w w' := by
  rcases Bool.eq_false_or_eq_true (walOk c.w) with hb0 | hb0
  · rcases Bool.eq_false_or_eq_true (inR c.f 0 c.t) with hb1 | hb1
    · go_enter Try.func55, Try.ntmps55
      go_wp2_with (first | (go_at_call 73; refine (walValid_any _ _ _ _ _ _ _).mono ?_; rintro e w' ⟨rfl, hb⟩; obtain ⟨hc, hf⟩ := bcell hb; have hz := hb.size; try simp at hz) | (go_at_call 74; refine (within_any _ _ _ _).mono ?_; rintro e w' ⟨rfl, rfl⟩))
      go_ret
      exact ⟨by simp_all [cloOk], by (repeat (first | exact Below.refl _ _ | (with_reducible exact Hid.out (by assumption)) | refine below_al ?_ _ | refine below_dr ?_ | refine below_tr ?_ (by assumption) | refine below_tr ?_ (Bel.out (by assumption)) | refine below_tr ?_ (Bel.out (ov_bel _ _)) | refine below_set ?_ (by simp; try omega)))⟩
    · go_enter Try.func55, Try.ntmps55
      go_wp2_with (first | (go_at_call 73; refine (walValid_any _ _ _ _ _ _ _).mono ?_; rintro e w' ⟨rfl, hb⟩; obtain ⟨hc, hf⟩ := bcell hb; have hz := hb.size; try simp at hz) | (go_at_call 74; refine (within_any _ _ _ _).mono ?_; rintro e w' ⟨rfl, rfl⟩))
      go_ret
      exact ⟨by simp_all [cloOk], by (repeat (first | exact Below.refl _ _ | (with_reducible exact Hid.out (by assumption)) | refine below_al ?_ _ | refine below_dr ?_ | refine below_tr ?_ (by assumption) | refine below_tr ?_ (Bel.out (by assumption)) | refine below_tr ?_ (Bel.out (ov_bel _ _)) | refine below_set ?_ (by simp; try omega)))⟩
  · go_enter Try.func55, Try.ntmps55
    go_wp2_with (first | (go_at_call 73; refine (walValid_any _ _ _ _ _ _ _).mono ?_; rintro e w' ⟨rfl, hb⟩; obtain ⟨hc, hf⟩ := bcell hb; have hz := hb.size; try simp at hz) | (go_at_call 74; refine (within_any _ _ _ _).mono ?_; rintro e w' ⟨rfl, rfl⟩))
    go_ret
    exact ⟨by simp_all [cloOk], by (repeat (first | exact Below.refl _ _ | (with_reducible exact Hid.out (by assumption)) | refine below_al ?_ _ | refine below_dr ?_ | refine below_tr ?_ (by assumption) | refine below_tr ?_ (Bel.out (by assumption)) | refine below_tr ?_ (Bel.out (ov_bel _ _)) | refine below_set ?_ (by simp; try omega)))⟩

set_option maxHeartbeats 400000 in
theorem clouds_any (V : LV) (L : Lnd) (A2 : Option Addr) (c2 bx : Nat) (x : List Clo) (w : World) (h3 : L.su.length ≤ 15) (hB : w.cell? ⟨bx, 0, none⟩ = some (.func (.func 55) #[vLnd V L] #[]))
    (hr : RowAt w A2 8 encClo x) (hn : x.length ≤ 7) :
    Calls Try.prog 57 #[.slice A2 x.length c2, .pointer (some ⟨bx, 0, none⟩)] w fun r w' => r = .returned (.bool (x.all (cloOk L.su.length))) ∧ Below w.heap.size w w' := by
  have HC := Lib.hid (allClo V L A2 c2 x (cloOk L.su.length) w hr (by omega) (fun y W _ => cloud_any V L y W h3))
  clear hr
  go_enter Try.func57, Try.ntmps57
  go_wp2_with (go_at_call 58; refine (HC.out).mono ?_; rintro e w' ⟨rfl, hb⟩)
  go_ret
  exact ⟨rfl, hb⟩
end Go.Proofs.Ytdfohielnfdmkaa

