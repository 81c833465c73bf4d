/- Part KX of the proof: R23 · S15. -/
import Derived.Test.YtdfohielnfdmkaaGreatKT
import Derived.Test.YtdfohielnfdmkaaGreatKF
import Derived.Test.YtdfohielnfdmkaaGreatKM
set_option linter.unusedVariables false
set_option linter.unusedSimpArgs false
/- Walks: package relay: ProveTable. -/
set_option linter.unusedVariables false
set_option linter.unusedSimpArgs false
namespace Go.Proofs.YtdfohielnfdmkaaGreat
open Go.RowKit
attribute [local go_sem low] cell_alloc_ite frozen_alloc_ite ov_cell ov_frozen
attribute [local go_sem] Oper.semAt_some

set_option maxHeartbeats 400000 in
theorem tabn_any (p bx : Nat) (V : LV) (L : Lnd) (x : Int) (w : World) (h : CellsAt w p (landCells V L)) (hb : w.cell? ⟨bx, 0, none⟩ = some (.pointer (some ⟨p, 0, none⟩))) (h3 : L.su.length ≤ 15) :
    Calls Tryz.prog 78 #[.int .i64 x, .pointer (some ⟨bx, 0, none⟩)] w fun e w' => e = .returned (.bool (inR x 0 ((L.su.length : Int) + 1))) ∧ Below w.heap.size w w' := by
  have HE := Lib.hid (end_any p V L w h h3)
  clear h
  go_enter Tryz.func78, Tryz.ntmps78
  go_wp2_with (first | (go_at_call 62; refine (HE.out).mono ?_; rintro e w' ⟨rfl, rfl⟩) | (go_at_call 79; refine (rwithin_any _ _ _ _).mono ?_; rintro e w' ⟨rfl, rfl⟩))
  go_ret
  exact ⟨rfl, Below.refl _ _⟩

/-- A table's number of a station. -/
def tabT (xs : List Int) (i : Nat) : Nat := (xs.getD i 0).toNat
/-- No station before A flashes to one whose number is too great. -/
def TabFits (L : Lnd) (k : Nat) (T : Nat → Nat) (A : Nat) : Prop := ∀ a, a < A → ∀ b h, b < L.st.length → T a ≤ h → h < L.su.length → canN L a b k h = true → T b ≤ h + 1
/-- .. nor does station A before an hour. -/
def TabAt (L : Lnd) (k : Nat) (T : Nat → Nat) (A hr : Nat) : Prop := ∀ b h, b < L.st.length → T A ≤ h → h < hr → h < L.su.length → canN L A b k h = true → T b ≤ h + 1
/-- A table proves. -/
def PrTab (L : Lnd) (f s k : Int) (xs : List Int) : Prop :=
  openE L [f] [s] k = 0 ∧ xs.length = L.st.length ∧ xs.all (fun x => inR x 0 ((L.su.length : Int) + 1)) = true ∧ TabFits L k.toNat (tabT xs) L.st.length ∧ (tabT xs f.toNat : Int) ≤ s

theorem tabT_at {xs : List Int} {m : Int} (h : xs.all (fun x => inR x 0 m) = true) {i : Nat} (hi : i < xs.length) : xs[i]? = some (tabT xs i : Int) ∧ (tabT xs i : Int) ≤ m := by
  have hx := List.all_eq_true.1 h xs[i] (List.getElem_mem hi)
  unfold inR at hx
  simp at hx
  unfold tabT
  rw [List.getElem?_eq_getElem hi, List.getD_eq_getElem?_getD, List.getElem?_eq_getElem hi]
  simp
  omega

theorem RW.kept {w w' : World} {p K kc : Nat} {V : LV} {L : Lnd} {rs : Nat → Nat} (h : RW w p K kc V L rs) (hk : Kept w w') : RW w' p K kc V L rs :=
  ⟨h.cells.kept hk, hk _ _ h.known, fun k hlt => hk _ _ (h.row k hlt), h.kc, h.inj, h.rd.kept hk⟩

/-- What all of ProveTable keeps: the land at work, the table, the result so far. -/
structure PW (w : World) (p kb kc : Nat) (V : LV) (L : Lnd) (rs : Nat → Nat) (A0 : Option Addr) (c0 bw : Nat) (xs : List Int) (wr : World) : Prop where
  rw : RW wr p kb kc V L rs
  rm : RM wr L rs
  bel : Below w.heap.size w wr
  tab : RowAt wr A0 1 encInt xs
  c9 : wr.cell? ⟨w.heap.size + 1, 0, none⟩ = some (.slice A0 xs.length c0)
  c10 : wr.cell? ⟨w.heap.size + 1 + 1, 0, none⟩ = some (.bool false)
  f10 : wr.frozen? ⟨w.heap.size + 1 + 1, 0, none⟩ = false
  c11 : wr.cell? ⟨bw, 0, none⟩ = some (.pointer (some ⟨p, 0, none⟩))
theorem PW.calm {w : World} {p kb kc : Nat} {V : LV} {L : Lnd} {rs : Nat → Nat} {A0 : Option Addr} {c0 bw : Nat} {xs : List Int} {wr wr' : World} {n : Nat} (h : PW w p kb kc V L rs A0 c0 bw xs wr) (hc : Calm n wr wr')
    (hn : w.heap.size ≤ n) (hr : ∀ k, k < L.ca.length → rs k < n) : PW w p kb kc V L rs A0 c0 bw xs wr' :=
  ⟨h.rw.kept hc.kept, h.rm.trB hr hc.below, h.bel.trans (hc.below.mono hn), h.tab.kept hc.kept, hc.kept _ _ h.c9, hc.kept _ _ h.c10, (hc.froz _ _ _ h.c10).trans h.f10, hc.kept _ _ h.c11⟩
theorem PW.below {w : World} {p kb kc : Nat} {V : LV} {L : Lnd} {rs : Nat → Nat} {A0 : Option Addr} {c0 bw : Nat} {xs : List Int} {wr wr' : World} (h : PW w p kb kc V L rs A0 c0 bw xs wr) (hb : Below wr.heap.size wr wr') : PW w p kb kc V L rs A0 c0 bw xs wr' :=
  h.calm (calm_below hb) h.bel.size (fun k hk => h.rm.maps.lt ⟨k, hk, rfl⟩)
theorem PW.keep {w : World} {p kb kc : Nat} {V : LV} {L : Lnd} {rs : Nat → Nat} {A0 : Option Addr} {c0 bw : Nat} {xs : List Int} {wr wr' : World} (h : PW w p kb kc V L rs A0 c0 bw xs wr) (hk : KeepM (MS L rs) wr wr') (hm : RM wr' L rs)
    (hge : ∀ k, k < L.ca.length → w.heap.size ≤ rs k) : PW w p kb kc V L rs A0 c0 bw xs wr' :=
  ⟨h.rw.keep hk, hm, KeepM.below h.bel hk (fun i ⟨k, hk, e⟩ => by subst e; exact hge k hk), h.tab.kept hk.kept, hk.kept _ _ h.c9, hk.kept _ _ h.c10, (hk.frozens _ _).trans ((if_pos (cell_lt h.c10)).trans h.f10), hk.kept _ _ h.c11⟩
theorem kept_set {w : World} {a : Addr} {v : Value} (h : w.cell? a = some v) : Kept w (w.setCell a v) := fun b u hu => by
  by_cases e : a = b
  · subst e; rw [h] at hu; cases hu; exact World.cell?_setCell_same' _ _ _ (by rw [h]; rfl)
  · exact (World.cell?_setCell_other _ _ _ _ e).trans hu
theorem calm_set {w : World} {b : Nat} {v : Value} (h : w.cell? ⟨b, 0, none⟩ = some v) {n : Nat} (hn : n ≤ b) : Calm n w (w.setCell ⟨b, 0, none⟩ v) :=
  ⟨(Below.refl _ _).setCell (by simpa using hn) _, kept_set h, fun b o v _ => World.frozen?_setCell _ _ _ _⟩
theorem RM.same {w w' : World} {L : Lnd} {rs : Nat → Nat} (h : RM w L rs) (hs : ∀ k, k < L.ca.length → w'.heap[rs k]? = w.heap[rs k]?) : RM w' L rs := fun k hk => (h k hk).mono (hs k hk) (fun _ _ _ q => q)
theorem Calm.drew {n : Nat} {a b : World} (h : Calm n a b) : Calm n a b.drew := ⟨h.below.drew, h.kept, h.froz⟩
theorem keepsFrom_drew {n : Nat} {a b : World} (h : KeepsFrom n a b) : KeepsFrom n a b.drew := ⟨h.size, h.same⟩

theorem fr80 {t : Array Value} (h : t.size = 80) : t = (fun u : Nat → Value => (List.toArray (u 0 :: u 1 :: u 2 :: u 3 :: u 4 :: u 5 :: u 6 :: u 7 :: u 8 :: u 9 :: u 10 :: u 11 :: u 12 :: u 13 :: u 14 :: u 15 :: u 16 :: u 17 :: u 18 :: u 19 :: u 20 :: u 21 :: u 22 :: u 23 :: u 24 :: u 25 :: u 26 :: u 27 :: u 28 :: u 29 :: u 30 :: u 31 :: u 32 :: u 33 :: u 34 :: u 35 :: u 36 :: u 37 :: u 38 :: u 39 :: u 40 :: u 41 :: u 42 :: u 43 :: u 44 :: u 45 :: u 46 :: u 47 :: u 48 :: u 49 :: u 50 :: u 51 :: u 52 :: u 53 :: u 54 :: u 55 :: u 56 :: u 57 :: u 58 :: u 59 :: u 60 :: u 61 :: u 62 :: u 63 :: u 64 :: u 65 :: u 66 :: u 67 :: u 68 :: u 69 :: u 70 :: u 71 :: u 72 :: u 73 :: u 74 :: u 75 :: u 76 :: u 77 :: u 78 :: u 79 :: []))) (fun i => t.getD i undef) := by
  have := list_range t.toList 80 (by simpa using h)
  have e : t = t.toList.toArray := by simp
  rw [e, this]
  rfl
/-- The stations before A seen to. -/
def P3I (w : World) (p kb kc : Nat) (V : LV) (L : Lnd) (rs : Nat → Nat) (A0 : Option Addr) (c0 bw : Nat) (xs : List Int) (f s k : Nat) (gk : Nat) (a : Act) (wr : World) : Prop :=
  ∃ (A : Nat) (Dl : List Nat) (u : Nat → Value), A ≤ xs.length ∧ xs.length - A ≤ gk ∧ PW w p kb kc V L rs A0 c0 bw xs wr ∧ TabFits L k (tabT xs) A ∧ MksOk w.heap.size Dl wr ∧ a = { tmps := (List.toArray (u 0 :: .int .i64 f :: .int .i64 s :: .int .i64 k :: u 4 :: u 5 :: u 6 :: u 7 :: u 8 :: .pointer (some ⟨w.heap.size + 1, 0, none⟩) :: .pointer (some ⟨w.heap.size + 1 + 1, 0, none⟩) :: .pointer (some ⟨bw, 0, none⟩) :: u 12 :: u 13 :: u 14 :: u 15 :: u 16 :: u 17 :: u 18 :: u 19 :: u 20 :: u 21 :: u 22 :: u 23 :: u 24 :: u 25 :: u 26 :: u 27 :: u 28 :: u 29 :: u 30 :: u 31 :: u 32 :: u 33 :: u 34 :: u 35 :: u 36 :: u 37 :: u 38 :: u 39 :: u 40 :: u 41 :: u 42 :: .slice A0 xs.length c0 :: .int .i64 xs.length :: .int .i64 A :: u 46 :: u 47 :: u 48 :: u 49 :: u 50 :: u 51 :: u 52 :: u 53 :: u 54 :: u 55 :: u 56 :: u 57 :: u 58 :: u 59 :: u 60 :: u 61 :: u 62 :: u 63 :: u 64 :: u 65 :: u 66 :: u 67 :: u 68 :: u 69 :: u 70 :: u 71 :: u 72 :: u 73 :: u 74 :: u 75 :: u 76 :: u 77 :: u 78 :: u 79 :: [])), defers := mks Dl }
/-- .. at station A the hours before hr. -/
def P4I (w : World) (p kb kc : Nat) (V : LV) (L : Lnd) (rs : Nat → Nat) (A0 : Option Addr) (c0 bw : Nat) (xs : List Int) (f s k A : Nat) (gk : Nat) (a : Act) (wr : World) : Prop :=
  ∃ (hr bx : Nat) (Dl : List Nat) (u : Nat → Value), L.su.length + 1 - hr ≤ gk ∧ hr ≤ L.su.length + 1 ∧ PW w p kb kc V L rs A0 c0 bw xs wr ∧ TabAt L k (tabT xs) A hr ∧ tabT xs A ≤ hr ∧
    wr.cell? ⟨bx, 0, none⟩ = some (.int .i64 hr) ∧ wr.frozen? ⟨bx, 0, none⟩ = false ∧ w.heap.size + 1 + 1 < bx ∧ MksOk w.heap.size Dl wr ∧ a = { tmps := (List.toArray (u 0 :: .int .i64 f :: .int .i64 s :: .int .i64 k :: u 4 :: u 5 :: u 6 :: u 7 :: u 8 :: .pointer (some ⟨w.heap.size + 1, 0, none⟩) :: .pointer (some ⟨w.heap.size + 1 + 1, 0, none⟩) :: .pointer (some ⟨bw, 0, none⟩) :: u 12 :: .int .i64 A :: u 14 :: .pointer (some ⟨bx, 0, none⟩) :: u 16 :: u 17 :: u 18 :: u 19 :: u 20 :: u 21 :: u 22 :: u 23 :: u 24 :: u 25 :: u 26 :: u 27 :: u 28 :: u 29 :: u 30 :: u 31 :: u 32 :: u 33 :: u 34 :: u 35 :: u 36 :: u 37 :: u 38 :: u 39 :: u 40 :: u 41 :: u 42 :: .slice A0 xs.length c0 :: .int .i64 xs.length :: .int .i64 A :: u 46 :: u 47 :: u 48 :: u 49 :: u 50 :: u 51 :: u 52 :: u 53 :: u 54 :: u 55 :: u 56 :: u 57 :: u 58 :: u 59 :: u 60 :: u 61 :: u 62 :: u 63 :: u 64 :: u 65 :: u 66 :: u 67 :: u 68 :: u 69 :: u 70 :: u 71 :: u 72 :: u 73 :: u 74 :: u 75 :: u 76 :: u 77 :: u 78 :: u 79 :: [])), defers := mks Dl }
theorem P3I.mk {w : World} {p kb kc : Nat} {V : LV} {L : Lnd} {rs : Nat → Nat} {A0 : Option Addr} {c0 bw : Nat} {xs : List Int} {f s k gk : Nat} {t : Array Value} {wr : World} (A : Nat) (Dl : List Nat) (hs : t.size = 80) (h1 : t.getD 1 undef = .int .i64 f) (h2 : t.getD 2 undef = .int .i64 s) (h3 : t.getD 3 undef = .int .i64 k) (h9 : t.getD 9 undef = .pointer (some ⟨w.heap.size + 1, 0, none⟩)) (h10 : t.getD 10 undef = .pointer (some ⟨w.heap.size + 1 + 1, 0, none⟩)) (h11 : t.getD 11 undef = .pointer (some ⟨bw, 0, none⟩)) (h43 : t.getD 43 undef = .slice A0 xs.length c0) (h44 : t.getD 44 undef = .int .i64 xs.length) (h45 : t.getD 45 undef = .int .i64 A)
    (q1 : A ≤ xs.length) (q2 : xs.length - A ≤ gk) (q3 : PW w p kb kc V L rs A0 c0 bw xs wr) (q4 : TabFits L k (tabT xs) A) (q5 : MksOk w.heap.size Dl wr) : P3I w p kb kc V L rs A0 c0 bw xs f s k gk { tmps := t, defers := mks Dl } wr :=
  ⟨A, Dl, fun i => t.getD i undef, q1, q2, q3, q4, q5, congrArg (fun x => Act.mk x (mks Dl)) ((fr80 hs).trans (by dsimp only; rw [h1, h2, h3, h9, h10, h11, h43, h44, h45]))⟩
theorem P4I.mk {w : World} {p kb kc : Nat} {V : LV} {L : Lnd} {rs : Nat → Nat} {A0 : Option Addr} {c0 bw : Nat} {xs : List Int} {f s k A gk : Nat} {t : Array Value} {wr : World} (hr bx : Nat) (Dl : List Nat) (hs : t.size = 80) (h1 : t.getD 1 undef = .int .i64 f) (h2 : t.getD 2 undef = .int .i64 s) (h3 : t.getD 3 undef = .int .i64 k) (h9 : t.getD 9 undef = .pointer (some ⟨w.heap.size + 1, 0, none⟩)) (h10 : t.getD 10 undef = .pointer (some ⟨w.heap.size + 1 + 1, 0, none⟩)) (h11 : t.getD 11 undef = .pointer (some ⟨bw, 0, none⟩)) (h13 : t.getD 13 undef = .int .i64 A) (h15 : t.getD 15 undef = .pointer (some ⟨bx, 0, none⟩)) (h43 : t.getD 43 undef = .slice A0 xs.length c0) (h44 : t.getD 44 undef = .int .i64 xs.length) (h45 : t.getD 45 undef = .int .i64 A)
    (q1 : L.su.length + 1 - hr ≤ gk) (q2 : hr ≤ L.su.length + 1) (q3 : PW w p kb kc V L rs A0 c0 bw xs wr) (q4 : TabAt L k (tabT xs) A hr) (q5 : tabT xs A ≤ hr) (q6 : wr.cell? ⟨bx, 0, none⟩ = some (.int .i64 hr))
    (q7 : wr.frozen? ⟨bx, 0, none⟩ = false) (q8 : w.heap.size + 1 + 1 < bx) (q9 : MksOk w.heap.size Dl wr) : P4I w p kb kc V L rs A0 c0 bw xs f s k A gk { tmps := t, defers := mks Dl } wr :=
  ⟨hr, bx, Dl, fun i => t.getD i undef, q1, q2, q3, q4, q5, q6, q7, q8, q9, congrArg (fun x => Act.mk x (mks Dl)) ((fr80 hs).trans (by dsimp only; rw [h1, h2, h3, h9, h10, h11, h13, h15, h43, h44, h45]))⟩

/-- Within a range over a set: the stations pre have come. -/
def PgI (w wl : World) (p kb kc : Nat) (V : LV) (L : Lnd) (rs : Nat → Nat) (A0 : Option Addr) (c0 bw : Nat) (xs : List Int) (hr bx : Nat) (Dl : List Nat) (fl : Nat) (pre : List (BitOf fl)) (W : World) : Prop :=
  wl.heap.size ≤ W.heap.size ∧ PW w p kb kc V L rs A0 c0 bw xs W ∧ (∀ y, y ∈ pre → tabT xs y.1 ≤ hr + 1) ∧ W.cell? ⟨bx, 0, none⟩ = some (.int .i64 hr) ∧ W.frozen? ⟨bx, 0, none⟩ = false ∧ MksOk w.heap.size Dl W
/-- .. one has come whose number is too great. -/
def PgX (w wl : World) (p kb kc : Nat) (V : LV) (L : Lnd) (rs : Nat → Nat) (A0 : Option Addr) (c0 bw : Nat) (xs : List Int) (hr bx : Nat) (Dl : List Nat) (fl : Nat) (cd : Code) (pre : List (BitOf fl)) (W : World) : Prop :=
  cd = .ret ∧ wl.heap.size ≤ W.heap.size ∧ PW w p kb kc V L rs A0 c0 bw xs W ∧ (∃ y : BitOf fl, hr + 1 < tabT xs y.1) ∧ MksOk w.heap.size Dl W

set_option maxRecDepth 100000 in
set_option maxHeartbeats 8000000 in
theorem proveTable_any (V : LV) (L : Lnd) (f s k : Int) (A0 : Option Addr) (c0 : Nat) (xs : List Int) (w : World) (hr : RdL w V L) (hx : RowAt w A0 1 encInt xs) (lx : xs.length ≤ 100) :
    Calls Tryz.prog 41 #[vLnd V L, .int .i64 f, .int .i64 s, .int .i64 k, .slice A0 xs.length c0] w (ProveTop (PrTab L f s k xs) w) := by
  have l0 := hr.l0
  have l3 := hr.l3
  cases he : (openE L [f] [s] k != 0) with
  | true =>
    have HO := Lib.hid (fun W b1 b2 (hW : Below w.heap.size w W) h0 h2 => open11_err V L f s k b1 b2 W (hr.below hW) h0 h2 he)
    have hne : Hid (openE L [f] [s] k ≠ 0) := Lib.hid (by simpa using he)
    clear hr hx
    (refine (callsIn_wide (n := 9)).1 ?_; refine callsIn_of_wp_marks Tryz.func41 rfl trivial (wpIn_wide.2 ?_) rfl; simp only [Tryz.ntmps41, List.size_toArray, List.length_cons, List.length_nil, Nat.reduceAdd, Nat.reduceSub, Array.replicate_succ, Array.replicate_zero, List.push_toArray, List.append_toArray, List.nil_append, List.cons_append])
    go_wp2_with (go_at_call 58; refine (HO.out _ (w.heap.size + 1 + 1 + 1) (w.heap.size + 1 + 1 + 1 + 1) (by (repeat (first | exact Below.refl _ _ | (with_reducible exact Hid.out (by assumption)) | refine below_al ?_ _ | refine below_dr ?_ | refine below_tr ?_ (by assumption) | refine below_tr ?_ (Bel.out (by assumption)) | refine below_tr ?_ (Bel.out (ov_bel _ _)) | refine below_set ?_ (by simp; try omega)))) (by (try go_simp); (repeat (simp only [↓IntWalk.iteOmega]; (try go_simp))); (try omega)) (by (try go_simp); (repeat (simp only [↓IntWalk.iteOmega]; (try go_simp))); (try omega))).mono ?_; rintro e w' ⟨rfl, hb⟩; obtain ⟨hc, hf⟩ := bcell hb; have hz := hb.size; try simp at hz)
    have y10 : (w'.alloc (.cells #[.pointer none] 116)).cell? ⟨w.heap.size + 1 + 1, 0, none⟩ = some (.bool false) := (by (try go_simp); (repeat (simp only [↓IntWalk.iteOmega]; (try go_simp))); (try omega))
    have s10 := cell_set y10 (.bool false)
    exact retM (.bool false) (by simp [results, Tryz.results41, go_sem, s10]) ⟨false, ⟨(fun h => by cases h), fun h => absurd h.1 hne.out⟩, rfl, by (repeat (first | exact Below.refl _ _ | (with_reducible exact Hid.out (by assumption)) | refine below_al ?_ _ | refine below_dr ?_ | refine below_tr ?_ (by assumption) | refine below_tr ?_ (Bel.out (by assumption)) | refine below_tr ?_ (Bel.out (ov_bel _ _)) | refine below_set ?_ (by simp; try omega)))⟩
  | false =>
    have he0 : openE L [f] [s] k = 0 := by simpa using he
    have HO := Lib.hid (fun W b1 b2 (hW : Below w.heap.size w W) h0 h2 => open11_ok V L f s k b1 b2 W (hr.below hW) h0 h2 he0)
    obtain ⟨hf, hst, hti, k0, k1⟩ := openE_zero he0
    obtain ⟨f0, f1⟩ := hst f (by simp)
    obtain ⟨s0, s1⟩ := hti s (by simp)
    obtain ⟨f, rfl⟩ := Int.eq_ofNat_of_zero_le f0
    obtain ⟨s, rfl⟩ := Int.eq_ofNat_of_zero_le s0
    obtain ⟨k, rfl⟩ := Int.eq_ofNat_of_zero_le k0
    have ok := okay_of hf
    have hu1 := ok.u1
    have hs1 := ok.s1
    have HZ := Lib.hid he0
    have HX := Lib.hid hx
    have OK := Lib.hid ok
    have HT := Lib.hid (fun p bx (W : World) (hW : Below w.heap.size w W) (hc : CellsAt W p (landCells V L)) (hb : W.cell? ⟨bx, 0, none⟩ = some (.pointer (some ⟨p, 0, none⟩))) =>
      allTabN bx A0 c0 xs (fun x => inR x 0 ((L.su.length : Int) + 1)) W (hx.kept (kept_of_below hW)) (by omega) (fun x W' hW' => tabn_any p bx V L x W' (hc.kept (kept_of_below hW')) (kept_of_below hW' _ _ hb) l3))
    clear he hr hx hst hti ok hf he0 f0 s0 k0
    (refine (callsIn_wide (n := 9)).1 ?_; refine callsIn_of_wp_marks Tryz.func41 rfl trivial (wpIn_wide.2 ?_) rfl; simp only [Tryz.ntmps41, List.size_toArray, List.length_cons, List.length_nil, Nat.reduceAdd, Nat.reduceSub, Array.replicate_succ, Array.replicate_zero, List.push_toArray, List.append_toArray, List.nil_append, List.cons_append])
    go_wp2_with fail
    refine (HO.out _ (w.heap.size + 1 + 1 + 1) (w.heap.size + 1 + 1 + 1 + 1) (by (repeat (first | exact Below.refl _ _ | (with_reducible exact Hid.out (by assumption)) | refine below_al ?_ _ | refine below_dr ?_ | refine below_tr ?_ (by assumption) | refine below_tr ?_ (Bel.out (by assumption)) | refine below_tr ?_ (Bel.out (ov_bel _ _)) | refine below_set ?_ (by simp; try omega)))) (by (try go_simp); (repeat (simp only [↓IntWalk.iteOmega]; (try go_simp))); (try omega)) (by (try go_simp); (repeat (simp only [↓IntWalk.iteOmega]; (try go_simp))); (try omega))).mono ?_
    rintro e w1 ⟨p, kb, kc, rs, rfl, hb, hrw, hmap⟩
    have hB := (show Below w.heap.size w w1 by (repeat (first | exact Below.refl _ _ | (with_reducible exact Hid.out (by assumption)) | refine below_al ?_ _ | refine below_dr ?_ | refine below_tr ?_ (by assumption) | refine below_tr ?_ (Bel.out (by assumption)) | refine below_tr ?_ (Bel.out (ov_bel _ _)) | refine below_set ?_ (by simp; try omega))))
    have hrm := (rm_new (L := L) (fun k hk => (hmap k hk).2))
    have hge : ∀ k, k < L.ca.length → w.heap.size ≤ rs k := fun k hk => by have := (hmap k hk).1; simp at this; omega
    have hB1 : Below w1.heap.size w1 (w1.alloc (.cells #[.pointer (some ⟨p, 0, none⟩)] 116)) := by (repeat (first | exact Below.refl _ _ | (with_reducible exact Hid.out (by assumption)) | refine below_al ?_ _ | refine below_dr ?_ | refine below_tr ?_ (by assumption) | refine below_tr ?_ (Bel.out (by assumption)) | refine below_tr ?_ (Bel.out (ov_bel _ _)) | refine below_set ?_ (by simp; try omega)))
    obtain ⟨hc, hf⟩ := bcell hb
    have hz := hb.size
    (try simp at hz)
    have hPW : PW w p kb kc V L rs A0 c0 w1.heap.size xs (w1.alloc (.cells #[.pointer (some ⟨p, 0, none⟩)] 116)) :=
      ⟨hrw.below hB1, hrm.below hB1, below_tr hB hB1, HX.out.kept (kept_of_below (below_tr hB hB1)), (by (try go_simp); (repeat (simp only [↓IntWalk.iteOmega]; (try go_simp))); (try omega)), (by (try go_simp); (repeat (simp only [↓IntWalk.iteOmega]; (try go_simp))); (try omega)), (by (try go_simp); (repeat (simp only [↓IntWalk.iteOmega]; (try go_simp))); (try omega)), (by (try go_simp); (repeat (simp only [↓IntWalk.iteOmega]; (try go_simp))); (try omega))⟩
    have xb0 : (w1.alloc (.cells #[.pointer (some ⟨p, 0, none⟩)] 116)).cell? ⟨w.heap.size, 0, none⟩ = some (.slice V.a0 L.st.length V.c0) := (by (try go_simp); (repeat (simp only [↓IntWalk.iteOmega]; (try go_simp))); (try omega))
    have hPB := below_tr hB hB1
    replace hPW := Lib.hid hPW
    replace hPB := Lib.hid hPB
    replace hge := Lib.hid hge
    have x9 := hPW.out.c9
    have x10 := hPW.out.c10
    have x11 := hPW.out.c11
    have z10 := hPW.out.f10
    have p0 := hPW.out.rw.cells 0 _ rfl
    clear hb hB hrm hB1 hmap hrw hc hf
    cases hlb : ((xs.length : Int) != (L.st.length : Int)) with
    | true =>
      have hlen : ¬ xs.length = L.st.length := by intro e; rw [e] at hlb; simp at hlb
      have hne : Hid (¬ PrTab L f s k xs) := Lib.hid fun h => hlen h.2.1
      go_wp2
      exact retM (.bool false) (by simp [results, Tryz.results41, go_sem, cell_set x10 (.bool false)]) ⟨false, ⟨(fun h => by cases h), fun h => absurd h hne.out⟩, rfl, hPB.out.trans (calm_set x10 (by omega)).below⟩
    | false =>
    have hlen : Hid (xs.length = L.st.length) := Lib.hid (by have h7 : (xs.length : Int) = L.st.length := (by simpa using hlb); omega)
    cases hall : xs.all (fun x => inR x 0 ((L.su.length : Int) + 1)) with
    | false =>
      have hne : Hid (¬ PrTab L f s k xs) := Lib.hid fun h => by have := h.2.2.1; rw [hall] at this; cases this
      go_wp2_with fail
      refine (HT.out p w1.heap.size _ hPB.out hPW.out.rw.cells x11).mono ?_
      rintro e w2 ⟨rfl, hb2⟩
      rw [hall]
      have hPW2 := hPW.out.below hb2
      replace x10 := hPW2.c10
      replace z10 := hPW2.f10
      replace hPW2 := Lib.hid hPW2
      clear x9 x11 p0 xb0 hPW hPB hb2 HT HO
      go_wp2
      exact retM (.bool false) (by simp [results, Tryz.results41, go_sem, cell_set x10 (.bool false)]) ⟨false, ⟨(fun h => by cases h), fun h => absurd h hne.out⟩, rfl, hPW2.out.bel.trans (calm_set x10 (by omega)).below⟩
    | true =>
      have hfl : Hid (f < xs.length) := Lib.hid (by rw [hlen.out]; omega)
      have HF0 := Lib.hid (fun i (hi : i < xs.length) => tabT_at hall hi)
      obtain ⟨bA, oA, hA0, _⟩ := HX.out.num (HF0.out f hfl.out).1
      subst hA0
      go_wp2_with fail
      refine (HT.out p w1.heap.size _ hPB.out hPW.out.rw.cells x11).mono ?_
      rintro e w2 ⟨rfl, hb2⟩
      rw [hall]
      have hPW2 := hPW.out.below hb2
      have hw1 : w.heap.size + 1 + 1 < w1.heap.size := by omega
      replace x9 := hPW2.c9
      replace hPW2 := Lib.hid hPW2
      clear x10 x11 z10 p0 xb0 hPW hPB hb2 HT HO hz HX
      generalize w1.heap.size = bw at *
      go_wp2
      clear x9
      refine wp_loop_on (P3I w p kb kc V L rs (some ⟨bA, oA, none⟩) c0 bw xs f s k) xs.length (P3I.mk 0 [] rfl rfl rfl rfl rfl rfl rfl rfl rfl rfl (Nat.zero_le _) (by omega) hPW2.out (fun a ha => by omega) (MksOk.nil _ _)) ?_
      clear hPW2
      rintro ga a wr ⟨A, Dl, u, hA, hga, hpw, hfit, hmk, rfl⟩ K3 hK3
      by_cases hAn : A < xs.length
      · obtain ⟨hxA, hTA⟩ := HF0.out A hAn
        obtain ⟨bb, oo, hbo, hxc⟩ := hpw.tab.num hxA
        cases hbo
        have hAl : Hid (A < L.st.length) := Lib.hid (by rw [← hlen.out]; exact hAn)
        have hsz := hpw.bel.size
        have hb11 := cell_lt hpw.c11
        simp only at hb11
        replace hpw := Lib.hid hpw
        replace hfit := Lib.hid hfit
        replace hmk := Lib.hid hmk
        go_wp2
        have hbW : Below wr.heap.size wr (wr.alloc (.cells #[.int .i64 (tabT xs A)] 3)) := by (repeat (first | exact Below.refl _ _ | (with_reducible exact Hid.out (by assumption)) | refine below_al ?_ _ | refine below_dr ?_ | refine below_tr ?_ (by assumption) | refine below_tr ?_ (Bel.out (by assumption)) | refine below_tr ?_ (Bel.out (ov_bel _ _)) | refine below_set ?_ (by simp; try omega)))
        refine wp_loop_on (P4I w p kb kc V L rs (some ⟨bA, oA, none⟩) c0 bw xs f s k A) (L.su.length + 1 - tabT xs A) (P4I.mk (tabT xs A) wr.heap.size Dl rfl rfl rfl rfl rfl rfl rfl rfl rfl rfl rfl rfl (Nat.le_refl _) (by omega) (hpw.out.below hbW) (fun b h hb h1 h2 => by omega) (Nat.le_refl _) (by (try go_simp); (repeat (simp only [↓IntWalk.iteOmega]; (try go_simp))); (try omega)) (by (try go_simp); (repeat (simp only [↓IntWalk.iteOmega]; (try go_simp))); (try omega)) (by omega) (hmk.out.below hbW)) ?_
        clear hbW hxc hpw hmk hsz hb11 u wr Dl hxA
        rintro gh a wr ⟨hr, bx, Dl, u, hgh, hhr, hpw, hat, hTA2, x15, f15, hbx, hmk, rfl⟩ K4 hK4
        have x11 := hpw.c11
        have HE2 := Lib.hid (fun W' (hW' : Below wr.heap.size wr W') => end_any p V L W' (hpw.rw.cells.kept (kept_of_below hW')) l3)
        have hlx := cell_lt x15
        have hl11 := cell_lt x11
        simp only at hlx hl11
        replace hpw := Lib.hid hpw
        replace hat := Lib.hid hat
        replace hmk := Lib.hid hmk
        by_cases hlt : hr < L.su.length
        · go_wp2
          (refine wp_region_ov (by kernel_rfl) (by kernel_rfl) (fun R hR => ?_); (repeat (go_big_quiet_step ((go_at_call 62; exact calls_ov_same (HE2.out _ (by (repeat (first | exact Below.refl _ _ | (with_reducible exact Hid.out (by assumption)) | refine below_al ?_ _ | refine below_dr ?_ | refine below_tr ?_ (by assumption) | refine below_tr ?_ (Bel.out (by assumption)) | refine below_tr ?_ (Bel.out (ov_bel _ _)) | refine below_set ?_ (by simp; try omega))))))))); refine wpQuiet_nil ?_; refine hR.out _ ?_; clear hR R; intro W hW; have hc := hW.cells; have hf := hW.frozens; have hz := hW.size; (try simp at hz))
          have y15 : W.cell? ⟨bx, 0, none⟩ = some (.int .i64 hr) := (by (try go_simp); (repeat (simp only [↓IntWalk.iteOmega]; (try go_simp))); (try omega))
          have g15 : W.frozen? ⟨bx, 0, none⟩ = false := (by (try go_simp); (repeat (simp only [↓IntWalk.iteOmega]; (try go_simp))); (try omega))
          have y11 : W.cell? ⟨bw, 0, none⟩ = some (.pointer (some ⟨p, 0, none⟩)) := (by (try go_simp); (repeat (simp only [↓IntWalk.iteOmega]; (try go_simp))); (try omega))
          have hB := hW.out
          have hPW2 := hpw.out.below hB
          have hMk2 := Lib.hid (hmk.out.below hB)
          have HF := Lib.hid (from_any p kb kc V L rs A k hr W hPW2.rw hPW2.rm OK.out hAl.out (by omega) hlt)
          replace hPW2 := Lib.hid hPW2
          clear hc hf hz hW x15 f15 x11 HE2 hpw hB
          go_wp2_with fail
          refine HF.out.mono ?_
          rintro e w5 ⟨rfl, hkm5, hrm5⟩
          have hPW5 := hPW2.out.keep hkm5 hrm5 hge.out
          have z15 := hkm5.kept _ _ y15
          have zf15 : w5.frozen? ⟨bx, 0, none⟩ = false := (hkm5.frozens _ _).trans ((if_pos (cell_lt y15)).trans g15)
          have hmk5 := hMk2.out.keepM hkm5
          have hbl : Below w5.heap.size w5 (w5.alloc (.cells #[.int .u64 (flN L A k hr)] 164)) := by (repeat (first | exact Below.refl _ _ | (with_reducible exact Hid.out (by assumption)) | refine below_al ?_ _ | refine below_dr ?_ | refine below_tr ?_ (by assumption) | refine below_tr ?_ (Bel.out (by assumption)) | refine below_tr ?_ (Bel.out (ov_bel _ _)) | refine below_set ?_ (by simp; try omega)))
          have HI : Hid (PgI w (w5.alloc (.cells #[.int .u64 (flN L A k hr)] 164)) p kb kc V L rs (some ⟨bA, oA, none⟩) c0 bw xs hr bx Dl (flN L A k hr) [] (w5.alloc (.cells #[.int .u64 (flN L A k hr)] 164))) :=
            Lib.hid ⟨Nat.le_refl _, hPW5.below hbl, (fun y hy => by cases hy), kept_of_below hbl _ _ z15, (hbl.frozen (p := ⟨bx, 0, none⟩) (cell_lt z15)).trans zf15, hmk5.below hbl⟩
          have hDl : ∀ D, D ∈ Dl → D < w5.heap.size := fun D hD => hmk5.lt hD
          have hrl : ∀ k, k < L.ca.length → rs k < w5.heap.size := fun k hk => hPW5.rm.maps.lt ⟨k, hk, rfl⟩
          have hbox : (w5.alloc (.cells #[.int .u64 (flN L A k hr)] 164)).cell? ⟨w5.heap.size, 0, none⟩ = some (.int .u64 (flN L A k hr)) := (by (try go_simp); (repeat (simp only [↓IntWalk.iteOmega]; (try go_simp))); (try omega))
          have hw5 : w.heap.size + 1 + 1 < w5.heap.size := by have := cell_lt hPW5.c10; simp only at this; have := cell_lt hPW5.c11; simp only at this; omega
          have hx5 : bx < w5.heap.size := cell_lt z15
          have hfl6 := fl_lt (A := A) (k := k) (h := hr) hs1
          replace hDl := Lib.hid hDl
          replace hrl := Lib.hid hrl
          replace hbox := Lib.hid hbox
          have HBC := Lib.hid (fun (x : Nat) (hx : (flN L A k hr).testBit x = true) => bit_can hx)
          have HCB := Lib.hid (fun (x : Nat) (h1 : x < L.st.length) (hx : canN L A x k hr = true) => can_bit h1 hx)
          clear hPW5 z15 zf15 hmk5 hbl hkm5 hrm5 y15 g15 y11 HF hPW2 hMk2 hmk
          generalize flN L A k hr = fl at *
          go_wp2_with (go_at_call 81; refine (each_any _ _).mono ?_; rintro e w6 ⟨rfl, rfl⟩)
          refine (wpIn_wide (n := 9)).1 ?_
          refine wpIn_rangeFunc_B rfl (by omega) (gf := 108) (lb := #[.pointer (some ⟨w5.heap.size, 0, none⟩)]) rfl trivial (enters_of Tryz.func108 (by kernel_rfl) rfl)
            (each_stops fl w5.heap.size _ hfl6 hbox.out 8) kpB_t (fun W l o o' _ h1 h2 _ => kpB_b W l o o' h1 h2) (fun W v hv => hv) (Below.refl _ _) (fun _ => rfl)
            (PgI w (w5.alloc (.cells #[.int .u64 fl] 164)) p kb kc V L rs (some ⟨bA, oA, none⟩) c0 bw xs hr bx Dl fl) (PgX w (w5.alloc (.cells #[.int .u64 fl] 164)) p kb kc V L rs (some ⟨bA, oA, none⟩) c0 bw xs hr bx Dl fl)
            (fun s X Y row hs hg hrow => by
              obtain ⟨i0, i1, i2, i3, i4, i5⟩ := hs
              have hcalm := calm_grown hg i0 hrow
              exact ⟨by have := hg.size; omega, i1.calm hcalm (by simp; omega) (fun k hk => by have := hrl.out k hk; simp; omega), i2, hcalm.kept _ _ i3, (hcalm.froz _ _ _ i3).trans i4, i5.calm hcalm (fun D hD => by have := hDl.out D hD; simp; omega)⟩)
            (fun cd s X Y row hs hg hrow => by
              obtain ⟨i0, i1, i2, i3, i4⟩ := hs
              have hcalm := calm_grown hg i1 hrow
              exact ⟨i0, by have := hg.size; omega, i2.calm hcalm (by simp; omega) (fun k hk => by have := hrl.out k hk; simp; omega), i3, i4.calm hcalm (fun D hD => by have := hDl.out D hD; simp; omega)⟩)
            HI.out ?round ?done ?stop
          case round =>
            intro l x W K hK
            gi_wp2
            rintro l pre W hl hrec ⟨i0, i1, i2, i3, i4, i5⟩ hlen2
            clear hrec
            obtain ⟨b, hxb⟩ := x
            obtain ⟨hbn, hbc⟩ := HBC.out b hxb
            have hbn2 : b < xs.length := by rw [hlen.out]; exact hbn
            obtain ⟨hxB, hTB⟩ := HF0.out b hbn2
            obtain ⟨bb, oo, hbo, hxc⟩ := i1.tab.num hxB
            cases hbo
            have q9 := i1.c9
            have q10 := i1.c10
            have g10 := i1.f10
            dsimp only
            by_cases hgt : hr + 1 < tabT xs b
            · have hfin : Hid (PgX w (w5.alloc (.cells #[.int .u64 fl] 164)) p kb kc V L rs (some ⟨bA, oA, none⟩) c0 bw xs hr bx Dl fl .ret (pre ++ [⟨b, hxb⟩]) (W.setCell ⟨w.heap.size + 1 + 1, 0, none⟩ (.bool false)).drew) := by
                have hcalm : Calm (w.heap.size + 1 + 1) W (W.setCell ⟨w.heap.size + 1 + 1, 0, none⟩ (.bool false)).drew := (calm_set q10 (Nat.le_refl _)).drew
                refine Lib.hid ⟨rfl, by simpa using i0,  ⟨i1.rw.kept hcalm.kept, i1.rm.same (fun k hk => by obtain ⟨es, c, h, _⟩ := i1.rm k hk; exact ((KeepsOthers.setCell W ⟨w.heap.size + 1 + 1, 0, none⟩ (.bool false)).same _ _ h rfl).trans h.symm), i1.bel.trans (hcalm.below.mono (by omega)), i1.tab.kept hcalm.kept, hcalm.kept _ _ i1.c9, hcalm.kept _ _ i1.c10, (hcalm.froz _ _ _ i1.c10).trans i1.f10, hcalm.kept _ _ i1.c11⟩, ⟨⟨b, hxb⟩, hgt⟩, (i5.set _ _).below (Below.refl _ _).drew⟩
              clear i0 i1 i2 i5
              gi_wp2
              refine wpIn_region_any (by kernel_rfl) ?_
              refine wpAnyIn_toRound (by kernel_rfl) _ _ _ _ ?_
              (refine wpAnyIn_takeL (i := 4) (v := .int .i64 hr) (⟨bx, 0, none⟩) (.int .i64 hr) rfl rfl (by kernel_rfl) (by kernel_rfl) (by kernel_rfl) (by kernel_rfl) (fun _ _ _ h => h) (by go_simp) ⟨by rfl, fun w hw => by go_simp, fun _ => rfl⟩ ?_; go_simp)
              (refine wpAnyIn_take (i := 5) (v := .int .i64 ((hr : Int) + 1)) rfl rfl (by kernel_rfl) (by kernel_rfl) (by kernel_rfl) (fun _ _ _ h => h) ⟨Or.inl ⟨by rfl, fun w => by (go_simp; exact IntWalk.i64_in _ (by omega))⟩, fun _ => rfl⟩ ?_; go_simp)
              (refine wpAnyIn_takeL (i := 0) (v := .slice (some ⟨bA, oA, none⟩) xs.length c0) (⟨w.heap.size + 1, 0, none⟩) (.slice (some ⟨bA, oA, none⟩) xs.length c0) rfl rfl (by kernel_rfl) (by kernel_rfl) (by kernel_rfl) (by kernel_rfl) (fun _ _ _ h => h) (by go_simp) ⟨by rfl, fun w hw => by go_simp, fun _ => rfl⟩ ?_; go_simp)
              (refine wpAnyIn_take (i := 1) (v := .int .i64 b) rfl rfl (by kernel_rfl) (by kernel_rfl) (by kernel_rfl) (fun _ _ _ h => h) ⟨Or.inl ⟨by rfl, fun w => by go_simp⟩, fun _ => rfl⟩ ?_; go_simp)
              (refine wpAnyIn_take (i := 2) (v := .pointer (some ⟨bA, oA + b, none⟩)) rfl rfl (by kernel_rfl) (by kernel_rfl) (by kernel_rfl) (fun _ _ _ h => h) ⟨Or.inl ⟨by rfl, fun w => by go_simp⟩, fun _ => rfl⟩ ?_; go_simp)
              (refine wpAnyIn_takeL (i := 3) (v := .int .i64 (tabT xs b)) (⟨bA, oA + b, none⟩) (.int .i64 (tabT xs b)) rfl rfl (by kernel_rfl) (by kernel_rfl) (by kernel_rfl) (by kernel_rfl) (fun _ _ _ h => h) (by go_simp) ⟨by rfl, fun w hw => by go_simp, fun _ => rfl⟩ ?_; go_simp)
              (refine wpAnyIn_take (i := 6) (v := .bool true) rfl rfl (by kernel_rfl) (by kernel_rfl) (by kernel_rfl) (fun _ _ _ h => h) ⟨Or.inl ⟨by rfl, fun w => by (go_simp; omega)⟩, fun _ => rfl⟩ ?_; go_simp)
              (refine wpAnyIn_done (by kernel_rfl) ?_ _)
              gi_wp2
              exact ⟨keepsFrom_drew ((KeepsOthers.setCell W ⟨w.heap.size + 1 + 1, 0, none⟩ (.bool false)).from _), hfin.out⟩
            · have hfin : Hid (PgI w (w5.alloc (.cells #[.int .u64 fl] 164)) p kb kc V L rs (some ⟨bA, oA, none⟩) c0 bw xs hr bx Dl fl (pre ++ [⟨b, hxb⟩]) W.drew) := by
                have hb1 : Below W.heap.size W W.drew := (Below.refl _ _).drew
                exact Lib.hid ⟨i0, i1.below hb1, fun y hy => by
                  rcases List.mem_append.1 hy with h | h
                  · exact i2 y h
                  · simp at h; subst h; simp only; omega, i3, i4, i5.below hb1⟩
              clear i0 i1 i2 i5
              gi_wp2
              refine wpIn_region_any (by kernel_rfl) ?_
              refine wpAnyIn_toRound (by kernel_rfl) _ _ _ _ ?_
              (refine wpAnyIn_takeL (i := 4) (v := .int .i64 hr) (⟨bx, 0, none⟩) (.int .i64 hr) rfl rfl (by kernel_rfl) (by kernel_rfl) (by kernel_rfl) (by kernel_rfl) (fun _ _ _ h => h) (by go_simp) ⟨by rfl, fun w hw => by go_simp, fun _ => rfl⟩ ?_; go_simp)
              (refine wpAnyIn_take (i := 5) (v := .int .i64 ((hr : Int) + 1)) rfl rfl (by kernel_rfl) (by kernel_rfl) (by kernel_rfl) (fun _ _ _ h => h) ⟨Or.inl ⟨by rfl, fun w => by (go_simp; exact IntWalk.i64_in _ (by omega))⟩, fun _ => rfl⟩ ?_; go_simp)
              (refine wpAnyIn_takeL (i := 0) (v := .slice (some ⟨bA, oA, none⟩) xs.length c0) (⟨w.heap.size + 1, 0, none⟩) (.slice (some ⟨bA, oA, none⟩) xs.length c0) rfl rfl (by kernel_rfl) (by kernel_rfl) (by kernel_rfl) (by kernel_rfl) (fun _ _ _ h => h) (by go_simp) ⟨by rfl, fun w hw => by go_simp, fun _ => rfl⟩ ?_; go_simp)
              (refine wpAnyIn_take (i := 1) (v := .int .i64 b) rfl rfl (by kernel_rfl) (by kernel_rfl) (by kernel_rfl) (fun _ _ _ h => h) ⟨Or.inl ⟨by rfl, fun w => by go_simp⟩, fun _ => rfl⟩ ?_; go_simp)
              (refine wpAnyIn_take (i := 2) (v := .pointer (some ⟨bA, oA + b, none⟩)) rfl rfl (by kernel_rfl) (by kernel_rfl) (by kernel_rfl) (fun _ _ _ h => h) ⟨Or.inl ⟨by rfl, fun w => by go_simp⟩, fun _ => rfl⟩ ?_; go_simp)
              (refine wpAnyIn_takeL (i := 3) (v := .int .i64 (tabT xs b)) (⟨bA, oA + b, none⟩) (.int .i64 (tabT xs b)) rfl rfl (by kernel_rfl) (by kernel_rfl) (by kernel_rfl) (by kernel_rfl) (fun _ _ _ h => h) (by go_simp) ⟨by rfl, fun w hw => by go_simp, fun _ => rfl⟩ ?_; go_simp)
              (refine wpAnyIn_take (i := 6) (v := .bool false) rfl rfl (by kernel_rfl) (by kernel_rfl) (by kernel_rfl) (fun _ _ _ h => h) ⟨Or.inl ⟨by rfl, fun w => by (go_simp; omega)⟩, fun _ => rfl⟩ ?_; go_simp)
              (refine wpAnyIn_done (by kernel_rfl) ?_ _)
              gi_wp2
              exact ⟨keepsFrom_drew (KeepsFrom.refl _ _), fun v hv => hv, hfin.out⟩
          case done =>
            rintro D ys W hD hS ⟨i0, i1, i2, i3, i4, i5⟩ hK
            have hat2 : TabAt L k (tabT xs) A (hr + 1) := fun b h hb h1 h2 h3 h4 => by
              by_cases e : h = hr
              · subst e
                have hbit := HCB.out b hb h4
                have : b ∈ ys.map (·.1) := by
                  rw [hS]; unfold bitsTo
                  exact List.mem_filter.2 ⟨List.mem_range.2 (by omega), hbit⟩
                obtain ⟨y, hy, e⟩ := List.mem_map.1 this
                subst e
                exact i2 y hy
              · exact hat.out b h hb h1 (by omega) h3 h4
            have hbx' := cell_lt i3
            simp only at hbx'
            have hbW : Below W.heap.size W (W.alloc (.cells #[.int .i64 ((hr : Int) + 1)] 3)) := by (repeat (first | exact Below.refl _ _ | (with_reducible exact Hid.out (by assumption)) | refine below_al ?_ _ | refine below_dr ?_ | refine below_tr ?_ (by assumption) | refine below_tr ?_ (Bel.out (by assumption)) | refine below_tr ?_ (Bel.out (ov_bel _ _)) | refine below_set ?_ (by simp; try omega)))
            have hlw := i1.bel.size
            have f1 := Lib.hid (i1.below hbW)
            have f2 := Lib.hid hat2
            have f8 : Hid (MksOk w.heap.size (D :: Dl) (W.alloc (.cells #[.int .i64 ((hr : Int) + 1)] 3))) :=
              Lib.hid ((i5.below hbW).cons (fun hd => by have := hDl.out D hd; simp at hD; omega) (by simp at hD; omega) ((hbW.block D (Array.getElem?_eq_some_iff.1 hK).1).trans hK))
            have hlW : w.heap.size + 1 + 1 < W.heap.size := by have := cell_lt i1.c10; simpa using this
            clear i1 i2 i5 hS hK hbW hat2
            gi_wp2
            go_wp2
            refine ⟨L.su.length + 1 - (hr + 1), by omega, P4I.mk (hr + 1) W.heap.size (D :: Dl) rfl rfl rfl rfl rfl rfl rfl rfl rfl rfl rfl rfl (Nat.le_refl _) (by omega) f1.out f2.out (by omega) ?_ (by (try go_simp); (repeat (simp only [↓IntWalk.iteOmega]; (try go_simp))); (try omega)) hlW f8.out⟩
            rw [World.cell?_alloc_at (w := W) _ _ _ _ rfl]; rfl
          case stop =>
            rintro D cd pre W hD hS ⟨rfl, i1, i2, ⟨⟨y, hy⟩, hgt⟩, i4⟩ hK
            obtain ⟨hyn, hyc⟩ := HBC.out y hy
            have hne : Hid (¬ PrTab L f s k xs) := Lib.hid fun h => by
              have := h.2.2.2.1 A hAl.out y hr hyn hTA2 hlt hyc
              simp only at hgt
              omega
            gi_wp2
            have hmkD : MksOk w.heap.size (D :: Dl) W := i4.cons (fun hd => by have := hDl.out D hd; simp at hD; omega) (by simp at hD; omega) hK
            rw [mks_cons]
            refine retMs hmkD (fun w' hs => ?_)
            exact ⟨.bool false, by simp [results, Tryz.results41, go_sem, hs.kept _ _ i2.c10], false, ⟨(fun h => by cases h), fun h => (hne.out h).elim⟩, rfl, i2.bel.trans hs.below⟩
        · go_wp2
          (refine wp_region_ov (by kernel_rfl) (by kernel_rfl) (fun R hR => ?_); (repeat (go_big_quiet_step ((go_at_call 62; exact calls_ov_same (HE2.out _ (by (repeat (first | exact Below.refl _ _ | (with_reducible exact Hid.out (by assumption)) | refine below_al ?_ _ | refine below_dr ?_ | refine below_tr ?_ (by assumption) | refine below_tr ?_ (Bel.out (by assumption)) | refine below_tr ?_ (Bel.out (ov_bel _ _)) | refine below_set ?_ (by simp; try omega))))))))); refine wpQuiet_nil ?_; refine hR.out _ ?_; clear hR R; intro W hW; have hc := hW.cells; have hf := hW.frozens; have hz := hW.size; (try simp at hz))
          have hB := Lib.hid hW.out
          clear hc hf hz hW
          go_wp2
          exact ⟨xs.length - (A + 1), by omega, P3I.mk (A + 1) Dl rfl rfl rfl rfl rfl rfl rfl rfl rfl rfl (by omega) (by omega) (hpw.out.below hB.out) (fun a ha b h hb h1 h2 h3 => by
            by_cases e : a = A
            · subst e; exact hat.out b h hb h1 (by omega) h2 h3
            · exact hfit.out a (by omega) b h hb h1 h2 h3) (hmk.out.below hB.out)⟩
      · have hAe : A = xs.length := by omega
        have hfin := Lib.hid (show TabFits L k (tabT xs) L.st.length by rw [← hlen.out, ← hAe]; exact hfit)
        obtain ⟨hxF, _⟩ := HF0.out f hfl.out
        obtain ⟨bb, oo, hbo, hxc⟩ := hpw.tab.num hxF
        cases hbo
        have q9 := hpw.c9
        have q10 := hpw.c10
        have g10 := hpw.f10
        have hfl2 := hfl.out
        replace hpw := Lib.hid hpw
        replace hmk := Lib.hid hmk
        clear hfit
        go_wp2
        refine retMs (hmk.out.set _ _) (fun w' hs => ?_)
        have hw := hs.kept _ _ (cell_set q10 (.bool (decide (tabT xs f ≤ s))))
        exact ⟨.bool (decide (tabT xs f ≤ s)), by simp [results, Tryz.results41, go_sem, hw], decide (tabT xs f ≤ s), ⟨fun h => ⟨HZ.out, hlen.out, hall, hfin.out, by have := of_decide_eq_true h; show (tabT xs f : Int) ≤ s; omega⟩, fun h => by
          have h5 : (tabT xs f : Int) ≤ s := h.2.2.2.2
          exact decide_eq_true (by omega)⟩, rfl, (hpw.out.bel.trans ((Below.refl _ _).setCell (by simp only; omega) _)).trans hs.below⟩
end Go.Proofs.YtdfohielnfdmkaaGreat

/- Walks: the reference of the relay: Proves; a list copied. -/
set_option linter.unusedVariables false
set_option linter.unusedSimpArgs false
namespace Go.Proofs.YtdfohielnfdmkaaGreat
open Go.RowKit
attribute [local go_sem low] cell_alloc_ite frozen_alloc_ite ov_cell ov_frozen

/-- A table proves, of a dispatch that may be asked. -/
def RPr (L : Lnd) (f s k : Nat) (xs : List Int) : Prop := xs.length = L.st.length ∧ xs.all (fun x => inR x 0 ((L.su.length : Int) + 1)) = true ∧ TabFits L k (tabT xs) L.st.length ∧ (tabT xs f : Int) ≤ s

set_option maxRecDepth 100000 in
set_option maxHeartbeats 8000000 in
theorem rproves_any (V : LV) (L : Lnd) (f s k : Nat) (A0 : Option Addr) (cx : Nat) (xs : List Int) (w : World) (hr : RdL w V L) (ok : Okay L) (lf : f < L.st.length) (lk : k < L.ca.length) (hx : RowAt w A0 1 encInt xs) (lx : xs.length ≤ 100) :
    Calls Tryz.prog 43 #[vLnd V L, .int .i64 f, .int .i64 s, .int .i64 k, .slice A0 xs.length cx] w (ProveTop (RPr L f s k xs) w) := by
  have l3 := hr.l3
  have l0 := hr.l0
  have hu1 := ok.u1
  have hs1 := ok.s1
  have HE := Lib.hid (fun W => rend_any V L W l3)
  have HC := Lib.hid (fun (a b h : Nat) (W : World) (hW : Below w.heap.size w W) (la : a < L.st.length) (lb : b < L.st.length) (lh : h < L.su.length) => rcan_any V L a b k h W (hr.below hW) ok la lb lk lh)
  have HX := Lib.hid hx
  obtain ⟨a0, c0, a1, c1, a2, c2, a3, c3⟩ := V
  simp only [vLnd] at *
  clear hr hx ok
  go_enter Tryz.func43, Tryz.ntmps43
  cases hlb : ((xs.length : Int) != (L.st.length : Int)) with
  | true =>
    have hne : Hid (¬ RPr L f s k xs) := Lib.hid fun h => by rw [h.1] at hlb; simp at hlb
    go_wp2
    go_ret
    exact ⟨false, ⟨(fun h => by cases h), fun h => absurd h hne.out⟩, rfl, by (repeat (first | exact Below.refl _ _ | (with_reducible exact Hid.out (by assumption)) | refine below_al ?_ _ | refine below_dr ?_ | refine below_tr ?_ (by assumption) | refine below_tr ?_ (Bel.out (by assumption)) | refine below_tr ?_ (Bel.out (ov_bel _ _)) | refine below_set ?_ (by simp; try omega)))⟩
  | false =>
    have hlen : Hid (xs.length = L.st.length) := Lib.hid (by have h7 : (xs.length : Int) = L.st.length := (by simpa using hlb); omega)
    have hfl : Hid (f < xs.length) := Lib.hid (by rw [hlen.out]; exact lf)
    obtain ⟨bA, oA, hA0, _⟩ := HX.out.num (List.getElem?_eq_getElem hfl.out)
    subst hA0
    go_wp2_with fail
    generalize hA : w.alloc (.cells #[.slice a0 L.st.length c0, .slice a1 L.ri.length c1, .slice a2 L.ca.length c2, .slice a3 L.su.length c3] 27) = wA
    have hBA : Below w.heap.size w wA := by subst hA; (repeat (first | exact Below.refl _ _ | (with_reducible exact Hid.out (by assumption)) | refine below_al ?_ _ | refine below_dr ?_ | refine below_tr ?_ (by assumption) | refine below_tr ?_ (Bel.out (by assumption)) | refine below_tr ?_ (Bel.out (ov_bel _ _)) | refine below_set ?_ (by simp; try omega)))
    have hbox : CellsAt wA w.heap.size [.slice a0 L.st.length c0, .slice a1 L.ri.length c1, .slice a2 L.ca.length c2, .slice a3 L.su.length c3] := by subst hA; exact cells4 (by (try go_simp); (repeat (simp only [↓IntWalk.iteOmega]; (try go_simp))); (try omega)) (by (try go_simp); (repeat (simp only [↓IntWalk.iteOmega]; (try go_simp))); (try omega)) (by (try go_simp); (repeat (simp only [↓IntWalk.iteOmega]; (try go_simp))); (try omega)) (by (try go_simp); (repeat (simp only [↓IntWalk.iteOmega]; (try go_simp))); (try omega))
    clear hA
    replace hBA := Lib.hid hBA
    replace hbox := Lib.hid hbox
    go_loopw [11] (fun v wr => ∃ m : Nat, m ≤ xs.length ∧ v = .int .i64 m ∧ (∀ j x, j < m → xs[j]? = some x → inR x 0 ((L.su.length : Int) + 1) = true) ∧ Below wA.heap.size wA wr) (fun v _ => xs.length - (intOf v).toNat)
    case atStart => exact ⟨0, Nat.zero_le _, rfl, fun j x hj => by omega, Below.refl _ _⟩
    case round =>
      obtain ⟨m, hm, rfl, hin, hb0⟩ := hrel
      by_cases hlt : m < xs.length
      · have hxm := List.getElem?_eq_getElem hlt
        obtain ⟨bb, oo, hbo, hxc⟩ := (HX.out.kept (kept_of_below (below_tr hBA.out hb0))).num hxm
        cases hbo
        have x0 := (kept_of_below hb0) _ _ (hbox.out 0 _ rfl)
        have x1 := (kept_of_below hb0) _ _ (hbox.out 1 _ rfl)
        have x2 := (kept_of_below hb0) _ _ (hbox.out 2 _ rfl)
        have x3 := (kept_of_below hb0) _ _ (hbox.out 3 _ rfl)
        have HXm := Lib.hid hxm
        have hlw := cell_lt x0
        have hlx := cell_lt hxc
        simp only at hlw hlx
        generalize xs[m] = x at *
        replace hb0 := Lib.hid hb0
        replace hin := Lib.hid hin
        clear hxm
        obtain ⟨w2, rfl⟩ : ∃ w2, w2 = wr := ⟨_, rfl⟩
        cases hir : inR x 0 ((L.su.length : Int) + 1) with
        | false =>
          have hne : Hid (¬ RPr L f s k xs) := Lib.hid fun h => by
            have := List.all_eq_true.1 h.2.1 x (List.mem_of_getElem? HXm.out)
            rw [hir] at this; cases this
          go_wp2
          (refine wp_region_ov (by kernel_rfl) (by kernel_rfl) (fun R hR => ?_); (repeat (go_big_quiet_step (first | (go_at_call 44; exact calls_ov (HE.out _)) | (go_at_call 49; exact calls_ov_same (in_any _ _ _ _))))); refine wpQuiet_nil ?_; refine hR.out _ ?_; clear hR R; intro W hW; have hc := hW.cells; have hf := hW.frozens; have hz := hW.size; (try simp at hz))
          have hB := Lib.hid (below_tr (below_tr hBA.out hb0.out) hW.out)
          clear hc hf hz hW
          go_wp2
          go_ret
          exact ⟨false, ⟨(fun h => by cases h), fun h => absurd h hne.out⟩, rfl, hB.out⟩
        | true =>
          go_wp2
          (refine wp_region_ov (by kernel_rfl) (by kernel_rfl) (fun R hR => ?_); (repeat (go_big_quiet_step (first | (go_at_call 44; exact calls_ov (HE.out _)) | (go_at_call 49; exact calls_ov_same (in_any _ _ _ _))))); refine wpQuiet_nil ?_; refine hR.out _ ?_; clear hR R; intro W hW; have hc := hW.cells; have hf := hW.frozens; have hz := hW.size; (try simp at hz))
          have hB := Lib.hid (below_tr hb0.out hW.out)
          clear hc hf hz hW
          go_wp2
          go_roundw
          case rel => exact ⟨m + 1, by omega, by go_num, fun j y hj hy => by
            by_cases e : j = m
            · subst e; rw [HXm.out] at hy; cases hy; exact hir
            · exact hin.out j y (by omega) hy, hB.out⟩
          case measure => simp [intOf]; omega
      · obtain rfl : m = xs.length := by omega
        have hall : xs.all (fun x => inR x 0 ((L.su.length : Int) + 1)) = true := List.all_eq_true.2 fun x hx => by
          obtain ⟨j, hj, e⟩ := List.getElem_of_mem hx
          exact hin j x hj (by rw [List.getElem?_eq_getElem hj, e])
        have HF0 := Lib.hid (fun i (hi : i < xs.length) => tabT_at hall hi)
        have hAll := Lib.hid hall
        replace hb0 := Lib.hid hb0
        clear hin hall
        obtain ⟨w2, rfl⟩ : ∃ w2, w2 = wr := ⟨_, rfl⟩
        go_wp2
        go_loopw [12] (fun v wr => ∃ A : Nat, A ≤ xs.length ∧ v = .int .i64 A ∧ TabFits L k (tabT xs) A ∧ Below wA.heap.size wA wr) (fun v _ => xs.length - (intOf v).toNat)
        case atStart => exact ⟨0, Nat.zero_le _, rfl, fun a ha => by omega, hb0.out⟩
        case round =>
          obtain ⟨A, hA, rfl, hfit, hb1⟩ := hrel
          by_cases hAn : A < xs.length
          · obtain ⟨hxA, hTA⟩ := HF0.out A hAn
            have hAl : Hid (A < L.st.length) := Lib.hid (by rw [← hlen.out]; exact hAn)
            replace hfit := Lib.hid hfit
            replace hb1 := Lib.hid hb1
            clear hb0
            obtain ⟨w3, rfl⟩ : ∃ w3, w3 = wr := ⟨_, rfl⟩
            go_wp2
            go_loopw [13] (fun v wr => ∃ B : Nat, B ≤ xs.length ∧ v = .int .i64 B ∧ (∀ b, b < B → ∀ h, tabT xs A ≤ h → h < L.su.length → canN L A b k h = true → tabT xs b ≤ h + 1) ∧ Below wA.heap.size wA wr) (fun v _ => xs.length - (intOf v).toNat)
            case atStart => exact ⟨0, Nat.zero_le _, rfl, fun a ha => by omega, hb1.out⟩
            case round =>
              obtain ⟨B, hBl, rfl, hrow, hb2⟩ := hrel
              by_cases hBn : B < xs.length
              · obtain ⟨hxB, hTB⟩ := HF0.out B hBn
                have hBm : Hid (B < L.st.length) := Lib.hid (by rw [← hlen.out]; exact hBn)
                obtain ⟨bb, oo, hbo, hcA⟩ := (HX.out.kept (kept_of_below (below_tr hBA.out hb2))).num hxA
                cases hbo
                replace hrow := Lib.hid hrow
                replace hb2 := Lib.hid hb2
                clear hb1
                obtain ⟨w4, rfl⟩ : ∃ w4, w4 = wr := ⟨_, rfl⟩
                go_wp2
                clear hcA
                go_loopw [14] (fun v wr => ∃ h : Nat, tabT xs A ≤ h ∧ h ≤ L.su.length + 1 ∧ v = .int .i64 h ∧ (∀ x, x < h → tabT xs A ≤ x → x < L.su.length → canN L A B k x = true → tabT xs B ≤ x + 1) ∧ Below wA.heap.size wA wr) (fun v _ => L.su.length + 1 - (intOf v).toNat)
                case atStart => exact ⟨tabT xs A, Nat.le_refl _, by omega, rfl, fun x h1 h2 => by omega, hb2.out⟩
                case round =>
                  obtain ⟨h, hTh, hhE, rfl, hpos, hb3⟩ := hrel
                  clear hb2
                  have x0 := (kept_of_below hb3) _ _ (hbox.out 0 _ rfl)
                  have x1 := (kept_of_below hb3) _ _ (hbox.out 1 _ rfl)
                  have x2 := (kept_of_below hb3) _ _ (hbox.out 2 _ rfl)
                  have x3 := (kept_of_below hb3) _ _ (hbox.out 3 _ rfl)
                  obtain ⟨bb, oo, hbo, hcB⟩ := (HX.out.kept (kept_of_below (below_tr hBA.out hb3))).num hxB
                  cases hbo
                  have hlB := cell_lt hcB
                  have hl0 := cell_lt x0
                  simp only at hlB hl0
                  replace hpos := Lib.hid hpos
                  by_cases hlt : h < L.su.length
                  · have HCC := Lib.hid (fun W (hW : Below wA.heap.size wA W) => HC.out A B h W (below_tr hBA.out hW) hAl.out hBm.out hlt)
                    replace hb3 := Lib.hid hb3
                    cases hcan : canN L A B k h with
                    | true =>
                      rw [hcan] at HCC
                      go_wp2_with (go_at_call 44; refine (HE.out _).mono ?_; rintro e w' ⟨rfl, hb⟩; obtain ⟨hc, hf⟩ := bcell hb; have hz := hb.size; try simp at hz)
                      refine (HCC.out _ (below_tr hb3.out hb)).mono ?_
                      rintro e w6 ⟨rfl, hb6⟩
                      have hcB6 := kept_of_below hb6 _ _ (kept_of_below hb _ _ hcB)
                      have hB6 := Lib.hid (below_tr hb3.out (below_tr hb hb6))
                      clear hb hc hf hz hb6 hcB x0 x1 x2 x3 hb3
                      by_cases hgt : h + 1 < tabT xs B
                      · have hne : Hid (¬ RPr L f s k xs) := Lib.hid fun q => by
                          have := q.2.2.1 A hAl.out B h hBm.out hTh hlt hcan
                          omega
                        go_wp2
                        go_ret
                        exact ⟨false, ⟨(fun h => by cases h), fun h => absurd h hne.out⟩, rfl, below_tr hBA.out hB6.out⟩
                      · have hle : tabT xs B ≤ h + 1 := by omega
                        go_wp2
                        go_roundw
                        case rel => exact ⟨h + 1, by omega, by omega, by go_num, fun x h1 h2 h3 h4 => by
                          by_cases e : x = h
                          · subst e; exact hle
                          · exact hpos.out x (by omega) h2 h3 h4, hB6.out⟩
                        case measure => simp [intOf]; omega
                    | false =>
                      rw [hcan] at HCC
                      go_wp2_with (go_at_call 44; refine (HE.out _).mono ?_; rintro e w' ⟨rfl, hb⟩; obtain ⟨hc, hf⟩ := bcell hb; have hz := hb.size; try simp at hz)
                      refine (HCC.out _ (below_tr hb3.out hb)).mono ?_
                      rintro e w6 ⟨rfl, hb6⟩
                      have hcB6 := kept_of_below hb6 _ _ (kept_of_below hb _ _ hcB)
                      have hB6 := Lib.hid (below_tr hb3.out (below_tr hb hb6))
                      clear hb hc hf hz hb6 hcB x0 x1 x2 x3 hb3
                      go_wp2
                      go_roundw
                      case rel => exact ⟨h + 1, by omega, by omega, by go_num, fun x h1 h2 h3 h4 => by
                        by_cases e : x = h
                        · subst e; rw [hcan] at h4; cases h4
                        · exact hpos.out x (by omega) h2 h3 h4, hB6.out⟩
                      case measure => simp [intOf]; omega
                  · replace hb3 := Lib.hid hb3
                    go_wp2_with (go_at_call 44; refine (HE.out _).mono ?_; rintro e w' ⟨rfl, hb⟩; obtain ⟨hc, hf⟩ := bcell hb; have hz := hb.size; try simp at hz)
                    go_roundw
                    case rel => exact ⟨B + 1, by omega, by go_num, fun b hb' x h1 h2 h3 => by
                      by_cases e : b = B
                      · subst e; exact hpos.out x (by omega) h1 h2 h3
                      · exact hrow.out b (by omega) x h1 h2 h3, below_tr hb3.out hb⟩
                    case measure => simp [intOf]; omega
              · have hBe : B = xs.length := by omega
                replace hb2 := Lib.hid hb2
                have hnext : Hid (TabFits L k (tabT xs) (A + 1)) := Lib.hid fun a ha b x hb' h1 h2 h3 => by
                  by_cases e : a = A
                  · subst e; exact hrow b (by rw [hBe, hlen.out]; exact hb') x h1 h2 h3
                  · exact hfit.out a (by omega) b x hb' h1 h2 h3
                clear hrow
                go_wp2
                go_roundw
                case rel => exact ⟨A + 1, by omega, by go_num, hnext.out, hb2.out⟩
                case measure => simp [intOf]; omega
          · obtain rfl : A = xs.length := by omega
            have hfin : Hid (TabFits L k (tabT xs) L.st.length) := Lib.hid (by rw [← hlen.out]; exact hfit)
            obtain ⟨hxF, _⟩ := HF0.out f hfl.out
            obtain ⟨bb, oo, hbo, hcF⟩ := (HX.out.kept (kept_of_below (below_tr hBA.out hb1))).num hxF
            cases hbo
            have hfl2 := hfl.out
            replace hb1 := Lib.hid hb1
            clear hfit
            go_wp2
            go_ret
            exact ⟨_, ⟨fun h => ⟨hlen.out, hAll.out, hfin.out, by have := of_decide_eq_true h; omega⟩, fun h => decide_eq_true (by have := h.2.2.2; omega)⟩, rfl, below_tr hBA.out hb1.out⟩
end Go.Proofs.YtdfohielnfdmkaaGreat

