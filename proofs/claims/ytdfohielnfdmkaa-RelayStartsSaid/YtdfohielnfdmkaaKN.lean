/- Part KN of the proof: R13 · R14 · X5 · R15 · A1. -/
import Derived.Test.YtdfohielnfdmkaaKL
set_option linter.unusedVariables false
set_option linter.unusedSimpArgs false
/- Walks: package relay: the stations to which a station can flash in each case. -/
set_option linter.unusedVariables false
set_option linter.unusedSimpArgs false
namespace Go.Proofs.Ytdfohielnfdmkaa
open Go.RowKit
attribute [local go_sem low] cell_alloc_ite frozen_alloc_ite ov_cell ov_frozen cell_alloc_map frozen_alloc_map

/-- The set of the stations that can be reached in the first m cases. -/
def alF (L : Lnd) (i h : Nat) : Nat → Nat
  | 0 => 2 ^ L.st.length - 1
  | m + 1 => alF L i h m &&& flN L i m h
theorem alF_lt {L : Lnd} {i h : Nat} (h1 : L.st.length ≤ 6) : ∀ m, alF L i h m < 64
  | 0 => by
    have : 2 ^ L.st.length ≤ 2 ^ 6 := Nat.pow_le_pow_right (by omega) h1
    simp only [alF]; omega
  | m + 1 => by
    have := @Nat.and_le_left (alF L i h m) (flN L i m h)
    have := alF_lt (L := L) (i := i) (h := h) h1 m
    simp only [alF]; omega
theorem alF_bit {L : Lnd} {i h b : Nat} : ∀ m, ((alF L i h m).testBit b = true ↔ b < L.st.length ∧ ∀ k, k < m → canN L i b k h = true)
  | 0 => by simp [alF, Nat.testBit_two_pow_sub_one]
  | m + 1 => by
    simp only [alF, Nat.testBit_and, Bool.and_eq_true]
    rw [alF_bit m]
    constructor
    · rintro ⟨⟨h1, h2⟩, h3⟩
      refine ⟨h1, fun k hk => ?_⟩
      by_cases e : k = m
      · subst e; exact (bit_can h3).2
      · exact h2 k (by omega)
    · rintro ⟨h1, h2⟩
      exact ⟨⟨h1, fun k hk => h2 k (by omega)⟩, can_bit h1 (h2 m (by omega))⟩
/-- The set of the stations that can be reached in each case. -/
def alN (L : Lnd) (i h : Nat) : Nat := alF L i h L.ca.length
/-- What 'always' gives. -/
def AlwMade (L : Lnd) (rs : Nat → Nat) (i h : Nat) (w : World) (e : Ending) (w' : World) : Prop :=
  e = .returned (.int .u64 (alN L i h)) ∧ KeepM (MS L rs) w w' ∧ RM w' L rs

theorem mask_step (n : Nat) (h : n ≤ 6) : IntKind.u64.wrap (IntKind.u64.wrap (2 ^ n) - 1) = ((2 ^ n - 1 : Nat) : Int) := by
  have : n = 0 ∨ n = 1 ∨ n = 2 ∨ n = 3 ∨ n = 4 ∨ n = 5 ∨ n = 6 := by omega
  rcases this with rfl | rfl | rfl | rfl | rfl | rfl | rfl <;> decide

set_option maxHeartbeats 4000000 in
theorem always_any (p kb kc : Nat) (V : LV) (L : Lnd) (rs : Nat → Nat) (i h : Nat) (w : World) (hw : RW w p kb kc V L rs) (hm : RM w L rs) (ok : Okay L) (li : i < L.st.length) (lh : h < L.su.length) :
    Calls Try.prog 49 #[.pointer (some ⟨p, 0, none⟩), .agg #[.int .i64 i, .int .i64 h]] w (AlwMade L rs i h w) := by
  have x0 := hw.cells 0 _ rfl
  have x2 := hw.cells 2 _ rfl
  have hc1 := ok.c1
  have hs1 := ok.s1
  have hlp := cell_lt x0
  simp only at hlp
  have HC := Lib.hid (fun (W : World) (hk : KeepM (MS L rs) w W) (hm' : RM W L rs) (k : Nat) (lk : k < L.ca.length) => from_any p kb kc V L rs i k h W (hw.keep hk) hm' ok li lk lh)
  have hM0 := Lib.hid hm.maps
  have HM := Lib.hid hm
  have HL := Lib.hid (alF_lt (i := i) (h := h) hs1)
  have HK := Lib.hid (mask_step _ hs1)
  clear hw hm ok
  go_enter Try.func49, Try.ntmps49
  go_wp2
  rw [HK.out]
  have hb0 : Below w.heap.size w (w.alloc (.cells #[.int .i64 i, .int .i64 h] 93)) := by (repeat (first | exact Below.refl _ _ | (with_reducible exact Hid.out (by assumption)) | refine below_al ?_ _ | refine below_dr ?_ | refine below_tr ?_ (by assumption) | refine below_tr ?_ (Bel.out (by assumption)) | refine below_tr ?_ (Bel.out (ov_bel _ _)) | refine below_set ?_ (by simp; try omega)))
  have y0 : (w.alloc (.cells #[.int .i64 i, .int .i64 h] 93)).cell? ⟨w.heap.size, 0, none⟩ = some (.int .i64 i) := by simp [go_sem]
  have y1 : (w.alloc (.cells #[.int .i64 i, .int .i64 h] 93)).cell? ⟨w.heap.size, 1, none⟩ = some (.int .i64 h) := by simp [go_sem]
  have hkA : Hid (KeepM (MS L rs) w (w.alloc (.cells #[.int .i64 i, .int .i64 h] 93))) := Lib.hid (.of_below hM0.out hb0)
  have hrA : Hid (RM (w.alloc (.cells #[.int .i64 i, .int .i64 h] 93)) L rs) := Lib.hid (HM.out.below hb0)
  have hb0' := Lib.hid hb0
  have hzA : (w.alloc (.cells #[.int .i64 i, .int .i64 h] 93)).heap.size = w.heap.size + 1 := by simp
  clear hb0
  generalize hA : w.alloc (.cells #[.int .i64 i, .int .i64 h] 93) = wA at *
  clear hA x0 x2
  go_loopw [21, 5] (fun i' f wr => ∃ j : Nat, j ≤ L.ca.length ∧ i' = .int .i64 j ∧ f = .int .u64 (alF L i h j) ∧ KeepM (MS L rs) wA wr ∧ RM wr L rs) (fun i' _ _ => L.ca.length - (intOf i').toNat)
  case atStart => exact ⟨0, Nat.zero_le _, rfl, rfl, .refl hrA.out.maps, hrA.out⟩
  case round =>
    obtain ⟨j, hj, rfl, rfl, hkm, hrm⟩ := hrel
    by_cases hlt : j < L.ca.length
    · replace y0 := hkm.kept _ _ y0
      replace y1 := hkm.kept _ _ y1
      replace hkm := Lib.hid hkm
      replace hrm := Lib.hid hrm
      have hfb := HL.out j
      have hff : flN L i j h < 64 := fl_lt hs1
      have HB := Lib.hid (bits_and_u64_nat (alF L i h j) (flN L i j h) (by omega) (by omega))
      go_wp2_with fail
      refine (HC.out _ (hkA.out.trans hkm.out) hrm.out j hlt).mono ?_
      rintro e w1 ⟨rfl, hkm1, hrm1⟩
      replace hkm1 := Lib.hid (hkm.out.trans hkm1)
      replace hrm1 := Lib.hid hrm1
      clear hkm hrm
      go_wp2
      go_roundw
      case rel => exact ⟨j + 1, by omega, by go_num, by rw [HB.out]; rfl, hkm1.out, hrm1.out⟩
      case measure => simp [intOf]; omega
    · have hjn : j = L.ca.length := by omega
      subst hjn
      replace hkm := Lib.hid hkm
      replace hrm := Lib.hid hrm
      clear y0 y1
      go_wp2
      go_ret
      exact ⟨rfl, hkA.out.trans hkm.out, hrm.out⟩
end Go.Proofs.Ytdfohielnfdmkaa

/- Walks: package relay: hops are compared. -/
set_option linter.unusedVariables false
set_option linter.unusedSimpArgs false
namespace Go.Proofs.Ytdfohielnfdmkaa
open Go.RowKit
attribute [local go_sem low] cell_alloc_ite frozen_alloc_ite ov_cell ov_frozen cell_alloc_map frozen_alloc_map

/-- Compares two numbers. -/
def cmpI (a b : Int) : Int := if a < b then -1 else if b < a then 1 else 0
structure Hp where
  a : Int
  b : Int
  h : Int
deriving DecidableEq
def encHp (h : Hp) : List Value := [.int .i64 h.a, .int .i64 h.b, .int .i64 h.h]
abbrev vHp (h : Hp) : Value := .agg #[.int .i64 h.a, .int .i64 h.b, .int .i64 h.h]
theorem RowAt.hp {w : World} {A : Option Addr} {xs : List Hp} (h : RowAt w A 3 encHp xs) {i : Nat} {x : Hp} (hx : xs[i]? = some x) : ∃ b o, A = some ⟨b, o, none⟩ ∧ w.cell? ⟨b, o + i * 3, none⟩ = some (.int .i64 x.a) ∧ w.cell? ⟨b, o + i * 3 + 1, none⟩ = some (.int .i64 x.b) ∧ w.cell? ⟨b, o + i * 3 + 2, none⟩ = some (.int .i64 x.h) := by
  obtain ⟨b, o, hA, hc⟩ := h i x hx
  exact ⟨b, o, hA, hc 0 _ rfl, hc 1 _ rfl, hc 2 _ rfl⟩
/-- Compares two hops. -/
def cmpH (x y : Hp) : Int := if cmpI x.h y.h = 0 then cmpI x.b y.b else cmpI x.h y.h
/-- Compares two lists of hops. -/
def cmpL : List Hp → List Hp → Int
  | [], [] => 0
  | [], _ :: _ => -1
  | _ :: _, [] => 1
  | x :: xs, y :: ys => if cmpH x y = 0 then cmpL xs ys else cmpH x y

theorem isNaN_any (a : Int) (w : World) : Calls Try.prog 105 #[.int .i64 a] w fun e w' => e = .returned (.bool false) ∧ w = w' := by
  go_enter Try.func105, Try.ntmps105
  go_wp2
  go_ret
  exact ⟨by simp [results, Try.results105, go_sem], rfl⟩

theorem cmpInt_any (a b : Int) (w : World) : Calls Try.prog 101 #[.int .i64 a, .int .i64 b] w fun e w' => e = .returned (.int .i64 (cmpI a b)) ∧ w = w' := by
  go_enter Try.func101, Try.ntmps101
  by_cases h1 : a < b
  · have hr : cmpI a b = -1 := by unfold cmpI; rw [if_pos h1]
    go_wp2_with (go_at_call 105; refine (isNaN_any _ _).mono ?_; rintro e w' ⟨rfl, rfl⟩)
    go_ret
    exact ⟨by rw [hr]; rfl, rfl⟩
  · by_cases h2 : b < a
    · have hr : cmpI a b = 1 := by unfold cmpI; rw [if_neg h1, if_pos h2]
      go_wp2_with (go_at_call 105; refine (isNaN_any _ _).mono ?_; rintro e w' ⟨rfl, rfl⟩)
      go_ret
      exact ⟨by rw [hr]; rfl, rfl⟩
    · have hr : cmpI a b = 0 := by unfold cmpI; rw [if_neg h1, if_neg h2]
      go_wp2_with (go_at_call 105; refine (isNaN_any _ _).mono ?_; rintro e w' ⟨rfl, rfl⟩)
      go_ret
      exact ⟨by rw [hr]; rfl, rfl⟩

theorem sooner_any (x y : Hp) (w : World) : Calls Try.prog 91 #[vHp x, vHp y] w fun e w' => e = .returned (.int .i64 (cmpI x.h y.h)) ∧ Below w.heap.size w w' := by
  obtain ⟨xa, xb, xh⟩ := x
  obtain ⟨ya, yb, yh⟩ := y
  go_enter Try.func91, Try.ntmps91
  go_wp2_with (go_at_call 101; refine (cmpInt_any _ _ _).mono ?_; rintro e w' ⟨rfl, rfl⟩)
  go_ret
  exact ⟨by simp [results, Try.results91, go_sem], by (repeat (first | exact Below.refl _ _ | (with_reducible exact Hid.out (by assumption)) | refine below_al ?_ _ | refine below_dr ?_ | refine below_tr ?_ (by assumption) | refine below_tr ?_ (Bel.out (by assumption)) | refine below_tr ?_ (Bel.out (ov_bel _ _)) | refine below_set ?_ (by simp; try omega)))⟩
theorem lower_any (x y : Hp) (w : World) : Calls Try.prog 92 #[vHp x, vHp y] w fun e w' => e = .returned (.int .i64 (cmpI x.b y.b)) ∧ Below w.heap.size w w' := by
  obtain ⟨xa, xb, xh⟩ := x
  obtain ⟨ya, yb, yh⟩ := y
  go_enter Try.func92, Try.ntmps92
  go_wp2_with (go_at_call 101; refine (cmpInt_any _ _ _).mono ?_; rintro e w' ⟨rfl, rfl⟩)
  go_ret
  exact ⟨by simp [results, Try.results92, go_sem], by (repeat (first | exact Below.refl _ _ | (with_reducible exact Hid.out (by assumption)) | refine below_al ?_ _ | refine below_dr ?_ | refine below_tr ?_ (by assumption) | refine below_tr ?_ (Bel.out (by assumption)) | refine below_tr ?_ (Bel.out (ov_bel _ _)) | refine below_set ?_ (by simp; try omega)))⟩

set_option maxHeartbeats 4000000 in
theorem cmpHop_any (x y : Hp) (w : World) : Calls Try.prog 90 #[vHp x, vHp y] w fun e w' => e = .returned (.int .i64 (cmpH x y)) ∧ Below w.heap.size w w' := by
  have HS := Lib.hid (fun W => sooner_any x y W)
  have HL := Lib.hid (fun W => lower_any x y W)
  have HC : Hid (cmpH x y = if cmpI x.h y.h = 0 then cmpI x.b y.b else cmpI x.h y.h) := Lib.hid rfl
  obtain ⟨xa, xb, xh⟩ := x
  obtain ⟨ya, yb, yh⟩ := y
  generalize cmpH _ _ = r at *
  simp only at HC HS HL
  generalize cmpI xh yh = r1 at *
  generalize cmpI xb yb = r2 at *
  go_enter Try.func90, Try.ntmps90
  go_wp2
  generalize hA : ((w.alloc (Obj.cells #[.int .i64 xa, .int .i64 xb, .int .i64 xh] 63)).alloc (Obj.cells #[.int .i64 ya, .int .i64 yb, .int .i64 yh] 63)).alloc (Obj.cells #[.func (.func 91) #[] #[], .func (.func 92) #[] #[]] 150) = wA
  have c0 : wA.cell? ⟨w.heap.size, 0, none⟩ = some (.int .i64 xa) := by subst hA; exact (by (try go_simp); (repeat (simp only [↓IntWalk.iteOmega]; (try go_simp))); (try omega))
  have c1 : wA.cell? ⟨w.heap.size, 1, none⟩ = some (.int .i64 xb) := by subst hA; exact (by (try go_simp); (repeat (simp only [↓IntWalk.iteOmega]; (try go_simp))); (try omega))
  have c2 : wA.cell? ⟨w.heap.size, 2, none⟩ = some (.int .i64 xh) := by subst hA; exact (by (try go_simp); (repeat (simp only [↓IntWalk.iteOmega]; (try go_simp))); (try omega))
  have d0 : wA.cell? ⟨w.heap.size + 1, 0, none⟩ = some (.int .i64 ya) := by subst hA; exact (by (try go_simp); (repeat (simp only [↓IntWalk.iteOmega]; (try go_simp))); (try omega))
  have d1 : wA.cell? ⟨w.heap.size + 1, 1, none⟩ = some (.int .i64 yb) := by subst hA; exact (by (try go_simp); (repeat (simp only [↓IntWalk.iteOmega]; (try go_simp))); (try omega))
  have d2 : wA.cell? ⟨w.heap.size + 1, 2, none⟩ = some (.int .i64 yh) := by subst hA; exact (by (try go_simp); (repeat (simp only [↓IntWalk.iteOmega]; (try go_simp))); (try omega))
  have e0 : wA.cell? ⟨w.heap.size + 1 + 1, 0, none⟩ = some (.func (.func 91) #[] #[]) := by subst hA; exact (by (try go_simp); (repeat (simp only [↓IntWalk.iteOmega]; (try go_simp))); (try omega))
  have e1 : wA.cell? ⟨w.heap.size + 1 + 1, 1, none⟩ = some (.func (.func 92) #[] #[]) := by subst hA; exact (by (try go_simp); (repeat (simp only [↓IntWalk.iteOmega]; (try go_simp))); (try omega))
  have hbA : Hid (Below w.heap.size w wA) := Lib.hid (by subst hA; (repeat (first | exact Below.refl _ _ | (with_reducible exact Hid.out (by assumption)) | refine below_al ?_ _ | refine below_dr ?_ | refine below_tr ?_ (by assumption) | refine below_tr ?_ (Bel.out (by assumption)) | refine below_tr ?_ (Bel.out (ov_bel _ _)) | refine below_set ?_ (by simp; try omega))))
  have hzA : wA.heap.size = w.heap.size + 3 := by subst hA; simp
  clear hA
  go_loopw [12] (fun i wr => ∃ j : Nat, j ≤ 2 ∧ i = .int .i64 j ∧ (1 ≤ j → r1 = 0) ∧ (2 ≤ j → r2 = 0) ∧ Below wA.heap.size wA wr) (fun i _ => 2 - (intOf i).toNat)
  case atStart => exact ⟨0, Nat.zero_le _, rfl, fun h => by omega, fun h => by omega, Below.refl _ _⟩
  case round =>
    obtain ⟨j, hj, rfl, h1, h2, hB⟩ := hrel
    have hk := kept_of_below hB
    replace c0 := hk _ _ c0
    replace c1 := hk _ _ c1
    replace c2 := hk _ _ c2
    replace d0 := hk _ _ d0
    replace d1 := hk _ _ d1
    replace d2 := hk _ _ d2
    replace e0 := hk _ _ e0
    replace e1 := hk _ _ e1
    have hlw := cell_lt c0
    have hsz := hB.size
    simp only at hlw
    replace hB := Lib.hid hB
    clear hk
    by_cases h0 : j = 0
    · subst h0
      go_wp2_with fail
      refine (HS.out _).mono ?_
      rintro e w1 ⟨rfl, hb1⟩
      have hB1 := Lib.hid (below_tr (below_al hB.out _) hb1)
      clear hb1 hB
      by_cases hz : r1 = 0
      · replace hz := Lib.hid hz
        have hzd : (r1 != 0) = false := by rw [hz.out]; rfl
        go_wp2
        go_roundw
        case rel => exact ⟨1, by omega, rfl, fun _ => hz.out, fun h => by omega, hB1.out⟩
        case measure => simp [intOf]
      · have hzd : (r1 != 0) = true := by simpa using hz
        have hre : Hid (r = r1) := Lib.hid (by rw [HC.out, if_neg hz])
        go_wp2
        go_ret
        exact ⟨by rw [hre.out]; rfl, below_tr hbA.out hB1.out⟩
    · by_cases h1' : j = 1
      · subst h1'
        replace h1 := Lib.hid (h1 (by omega))
        go_wp2_with fail
        refine (HL.out _).mono ?_
        rintro e w1 ⟨rfl, hb1⟩
        have hB1 := Lib.hid (below_tr (below_al hB.out _) hb1)
        clear hb1 hB
        by_cases hz : r2 = 0
        · replace hz := Lib.hid hz
          have hzd : (r2 != 0) = false := by rw [hz.out]; rfl
          go_wp2
          go_roundw
          case rel => exact ⟨2, by omega, rfl, fun _ => h1.out, fun _ => hz.out, hB1.out⟩
          case measure => simp [intOf]
        · have hzd : (r2 != 0) = true := by simpa using hz
          have hre : Hid (r = r2) := Lib.hid (by rw [HC.out, if_pos h1.out])
          go_wp2
          go_ret
          exact ⟨by rw [hre.out]; rfl, below_tr hbA.out hB1.out⟩
      · obtain rfl : j = 2 := by omega
        have hre : Hid (r = 0) := Lib.hid (by rw [HC.out, if_pos (h1 (by omega)), h2 (by omega)])
        go_wp2
        go_ret
        exact ⟨by rw [hre.out]; rfl, below_tr hbA.out hB.out⟩
end Go.Proofs.Ytdfohielnfdmkaa

/- Walks: helpers of the laws: lists of hops are held against each other. -/
set_option linter.unusedVariables false
set_option linter.unusedSimpArgs false
namespace Go.Proofs.Ytdfohielnfdmkaa
open Go.RowKit
attribute [local go_sem low] cell_alloc_ite frozen_alloc_ite ov_cell ov_frozen

set_option maxRecDepth 100000 in
set_option maxHeartbeats 8000000 in
theorem lhops_any (A B : Option Addr) (ca cb : Nat) (xs ys : List Hp) (w : World) (hx : RowAt w A 3 encHp xs) (hy : RowAt w B 3 encHp ys) (lx : xs.length ≤ 100) (ly : ys.length ≤ 100) :
    Calls Try.prog 26 #[.slice A xs.length ca, .slice B ys.length cb] w fun e w' => e = .returned (.bool (decide (xs = ys))) ∧ Below w.heap.size w w' := by
  have HX := Lib.hid hx
  have HY := Lib.hid hy
  obtain ⟨r, hr⟩ : ∃ r, decide (xs = ys) = r := ⟨_, rfl⟩
  rw [hr]
  have HR := Lib.hid hr
  clear hx hy hr
  by_cases hl : xs.length = ys.length
  · have hld : ((xs.length : Int) != ys.length) = false := by rw [hl]; simp
    rw [hl]
    go_enter Try.func26, Try.ntmps26
    go_wp2
    go_loopw [5] (fun n wr => ∃ j : Nat, j ≤ ys.length ∧ n = .int .i64 j ∧ (∀ i, i < j → xs[i]? = ys[i]?) ∧ Below w.heap.size w wr) (fun n _ => ys.length - (intOf n).toNat)
    case atStart => exact ⟨0, Nat.zero_le _, rfl, fun i hi => by omega, Below.refl _ _⟩
    case round =>
      obtain ⟨j, hj, rfl, hall, hb⟩ := hrel
      by_cases hlt : j < ys.length
      · have hx := List.getElem?_eq_getElem (show j < xs.length by omega)
        have hy := List.getElem?_eq_getElem hlt
        obtain ⟨b, o, hA, e0, e1, e2⟩ := (HX.out.kept (kept_of_below hb)).hp hx
        obtain ⟨b2, o2, hB, f0, f1, f2⟩ := (HY.out.kept (kept_of_below hb)).hp hy
        have HXx := Lib.hid hx
        have HYy := Lib.hid hy
        generalize xs[j] = x at *
        generalize ys[j] = y at *
        subst hA hB
        have hl1 := cell_lt e0
        have hl2 := cell_lt f0
        simp only at hl1 hl2
        obtain ⟨xa, xb, xh⟩ := x
        obtain ⟨ya, yb, yh⟩ := y
        simp only at e0 e1 e2 f0 f1 f2
        replace hall := Lib.hid hall
        replace hb := Lib.hid hb
        clear hx hy
        have hres : Hid (¬ (xa = ya ∧ xb = yb ∧ xh = yh) → r = false) := Lib.hid (fun hne => by rw [← HR.out]; exact decide_eq_false (fun h => by have := HXx.out; rw [h, HYy.out] at this; cases this; exact hne ⟨rfl, rfl, rfl⟩))
        cases q0 : (xa != ya) with
        | true =>
          replace hres := Lib.hid (hres.out (fun h => by rw [h.1] at q0; simp at q0))
          go_wp2
          (refine wp_region_ov (by kernel_rfl) (by kernel_rfl) (fun R hR => ?_); (repeat (go_big_quiet_step (fail))); refine wpQuiet_nil ?_; refine hR.out _ ?_; clear hR R; intro W hW; have hc := hW.cells; have hf := hW.frozens; have hz := hW.size; (try simp at hz))
          have hb2 := Lib.hid (below_tr hb.out hW.out)
          go_wp2
          go_ret
          exact ⟨by rw [hres.out]; rfl, hb2.out⟩
        | false =>
          cases q1 : (xb != yb) with
          | true =>
            replace hres := Lib.hid (hres.out (fun h => by rw [h.2.1] at q1; simp at q1))
            go_wp2
            (refine wp_region_ov (by kernel_rfl) (by kernel_rfl) (fun R hR => ?_); (repeat (go_big_quiet_step (fail))); refine wpQuiet_nil ?_; refine hR.out _ ?_; clear hR R; intro W hW; have hc := hW.cells; have hf := hW.frozens; have hz := hW.size; (try simp at hz))
            have hb2 := Lib.hid (below_tr hb.out hW.out)
            go_wp2
            go_ret
            exact ⟨by rw [hres.out]; rfl, hb2.out⟩
          | false =>
            cases q2 : (xh != yh) with
            | true =>
              replace hres := Lib.hid (hres.out (fun h => by rw [h.2.2] at q2; simp at q2))
              go_wp2
              (refine wp_region_ov (by kernel_rfl) (by kernel_rfl) (fun R hR => ?_); (repeat (go_big_quiet_step (fail))); refine wpQuiet_nil ?_; refine hR.out _ ?_; clear hR R; intro W hW; have hc := hW.cells; have hf := hW.frozens; have hz := hW.size; (try simp at hz))
              have hb2 := Lib.hid (below_tr hb.out hW.out)
              go_wp2
              go_ret
              exact ⟨by rw [hres.out]; rfl, hb2.out⟩
            | false =>
              have hsame : Hid ((⟨xa, xb, xh⟩ : Hp) = ⟨ya, yb, yh⟩) := Lib.hid (by simp at q0 q1 q2; rw [q0, q1, q2])
              clear hres
              go_wp2
              (refine wp_region_ov (by kernel_rfl) (by kernel_rfl) (fun R hR => ?_); (repeat (go_big_quiet_step (fail))); refine wpQuiet_nil ?_; refine hR.out _ ?_; clear hR R; intro W hW; have hc := hW.cells; have hf := hW.frozens; have hz := hW.size; (try simp at hz))
              have hb2 := Lib.hid (below_tr hb.out hW.out)
              clear hc hW
              go_wp2
              go_roundw
              case rel => exact ⟨j + 1, by omega, by go_num, fun i hi => by by_cases e : i = j; subst e; rw [HXx.out, HYy.out, hsame.out]; exact hall.out i (by omega), hb2.out⟩
              case measure => simp [intOf]; omega
      · obtain rfl : j = ys.length := by omega
        have hres : Hid (r = true) := Lib.hid (by
          rw [← HR.out]
          refine decide_eq_true (List.ext_getElem? fun i => ?_)
          by_cases hi : i < ys.length
          · exact hall i hi
          · rw [List.getElem?_eq_none (by omega), List.getElem?_eq_none (by omega)])
        replace hb := Lib.hid hb
        clear hall
        go_wp2
        go_ret
        exact ⟨by rw [hres.out]; rfl, hb.out⟩
  · have hld : ((xs.length : Int) != ys.length) = true := by simpa using (by omega : ¬ (xs.length : Int) = ys.length)
    have hres : Hid (r = false) := Lib.hid (by rw [← HR.out]; exact decide_eq_false (fun h => hl (by rw [h])))
    go_enter Try.func26, Try.ntmps26
    go_wp2
    go_ret
    exact ⟨by rw [hres.out]; rfl, by (repeat (first | exact Below.refl _ _ | (with_reducible exact Hid.out (by assumption)) | refine below_al ?_ _ | refine below_dr ?_ | refine below_tr ?_ (by assumption) | refine below_tr ?_ (Bel.out (by assumption)) | refine below_tr ?_ (Bel.out (ov_bel _ _)) | refine below_set ?_ (by simp; try omega)))⟩
end Go.Proofs.Ytdfohielnfdmkaa

/- Walks: package relay: lists of hops are compared; paths. -/
set_option linter.unusedVariables false
set_option linter.unusedSimpArgs false
namespace Go.Proofs.Ytdfohielnfdmkaa
open Go.RowKit
attribute [local go_sem low] cell_alloc_ite frozen_alloc_ite ov_cell ov_frozen cell_alloc_map frozen_alloc_map

theorem cmpL_at {xs ys : List Hp} {x y : Hp} {j : Nat} (hx : xs[j]? = some x) (hy : ys[j]? = some y) : cmpL (xs.drop j) (ys.drop j) = if cmpH x y = 0 then cmpL (xs.drop (j + 1)) (ys.drop (j + 1)) else cmpH x y := by
  obtain ⟨h1, rfl⟩ := List.getElem?_eq_some_iff.1 hx
  obtain ⟨h2, rfl⟩ := List.getElem?_eq_some_iff.1 hy
  rw [List.drop_eq_getElem_cons h1, List.drop_eq_getElem_cons h2, cmpL]

set_option maxHeartbeats 4000000 in
theorem cmpFunc_any (A B : Option Addr) (ca cb : Nat) (xs ys : List Hp) (w : World) (hx : RowAt w A 3 encHp xs) (hy : RowAt w B 3 encHp ys) (lx : xs.length ≤ 15) (ly : ys.length ≤ 15) :
    Calls Try.prog 89 #[.slice A xs.length ca, .slice B ys.length cb, .func (.func 90) #[] #[]] w fun e w' => e = .returned (.int .i64 (cmpL xs ys)) ∧ Below w.heap.size w w' := by
  have HX := Lib.hid hx
  have HY := Lib.hid hy
  have HC := Lib.hid (fun x y W => cmpHop_any x y W)
  clear hx hy
  obtain ⟨r, hr⟩ : ∃ r, cmpL xs ys = r := ⟨_, rfl⟩
  rw [hr]
  have hd0 : cmpL (xs.drop 0) (ys.drop 0) = r := hr
  replace hd0 := Lib.hid hd0
  clear hr
  go_enter Try.func89, Try.ntmps89
  go_wp2
  go_loopw [13] (fun i wr => ∃ j : Nat, j ≤ xs.length ∧ j ≤ ys.length ∧ i = .int .i64 j ∧ cmpL (xs.drop j) (ys.drop j) = r ∧ Below w.heap.size w wr) (fun i _ => xs.length - (intOf i).toNat)
  case atStart => exact ⟨0, Nat.zero_le _, Nat.zero_le _, rfl, hd0.out, Below.refl _ _⟩
  case round =>
    obtain ⟨j, hj, hjy, rfl, hd, hB⟩ := hrel
    by_cases hlt : j < xs.length
    · have hx := List.getElem?_eq_getElem hlt
      obtain ⟨b, o, hA, e0, e1, e2⟩ := (HX.out.kept (kept_of_below hB)).hp hx
      by_cases hly : j < ys.length
      · have hy := List.getElem?_eq_getElem hly
        obtain ⟨b2, o2, hB2, f0, f1, f2⟩ := (HY.out.kept (kept_of_below hB)).hp hy
        have hstep := cmpL_at hx hy
        rw [hd] at hstep
        replace hstep := Lib.hid hstep
        replace hd := Lib.hid hd
        replace hB := Lib.hid hB
        generalize xs[j] = x at *
        generalize ys[j] = y at *
        subst hA hB2
        have l1 := cell_lt e0
        have l2 := cell_lt f0
        simp only at l1 l2
        clear hx hy
        go_wp2_with fail
        refine (HC.out _ _ _).mono ?_
        rintro e w1 ⟨rfl, hb1⟩
        have hB1 := Lib.hid (below_tr (below_al (below_al hB.out _) _) hb1)
        clear hb1 hB
        cases hz : decide (cmpH x y = 0) with
        | true =>
          have hz' := Lib.hid (of_decide_eq_true hz)
          have hzd : (cmpH x y != 0) = false := by rw [hz'.out]; rfl
          go_wp2
          go_roundw
          case rel => exact ⟨j + 1, by omega, by omega, by go_num, by rw [hstep.out, if_pos hz'.out], hB1.out⟩
          case measure => simp [intOf]; omega
        | false =>
          have hz' := Lib.hid (of_decide_eq_false hz)
          have hzd : (cmpH x y != 0) = true := by simpa using hz'.out
          have hre : Hid (r = cmpH x y) := Lib.hid (by rw [hstep.out, if_neg hz'.out])
          go_wp2
          go_ret
          exact ⟨by rw [hre.out]; rfl, hB1.out⟩
      · have hre : Hid (r = 1) := Lib.hid (by
          rw [← hd, List.drop_eq_getElem_cons hlt, List.drop_of_length_le (l := ys) (by omega)]; rfl)
        generalize xs[j] = x at *
        subst hA
        have l1 := cell_lt e0
        simp only at l1
        replace hd := Lib.hid hd
        replace hB := Lib.hid hB
        clear hx
        go_wp2
        go_ret
        exact ⟨by rw [hre.out]; rfl, below_al hB.out _⟩
    · obtain rfl : j = xs.length := by omega
      rw [List.drop_length] at hd
      replace hB := Lib.hid hB
      cases hcm : decide (xs.length < ys.length) with
      | true =>
        have hl := of_decide_eq_true hcm
        have hre : Hid (r = -1) := Lib.hid (by rw [← hd, List.drop_eq_getElem_cons hl]; rfl)
        go_wp2
        go_ret
        exact ⟨by rw [hre.out]; rfl, hB.out⟩
      | false =>
        have hl := of_decide_eq_false hcm
        have hre : Hid (r = 0) := Lib.hid (by rw [← hd, List.drop_of_length_le (l := ys) (by omega)]; rfl)
        go_wp2
        go_ret
        exact ⟨by rw [hre.out]; rfl, hB.out⟩

theorem compare_any (A B : Option Addr) (ca cb : Nat) (xs ys : List Hp) (w : World) (hx : RowAt w A 3 encHp xs) (hy : RowAt w B 3 encHp ys) (lx : xs.length ≤ 15) (ly : ys.length ≤ 15) :
    Calls Try.prog 68 #[.slice A xs.length ca, .slice B ys.length cb] w fun e w' => e = .returned (.int .i64 (cmpL xs ys)) ∧ Below w.heap.size w w' := by
  have HC := Lib.hid (cmpFunc_any A B ca cb xs ys w hx hy lx ly)
  clear hx hy
  go_enter Try.func68, Try.ntmps68
  go_wp2_with fail
  refine HC.out.mono ?_
  rintro e w1 ⟨rfl, hb1⟩
  replace hb1 := Lib.hid hb1
  go_wp2
  go_ret
  exact ⟨rfl, hb1.out⟩

/-- A path as it lies in memory. -/
def PathAt (w : World) (v : Value) : Option (List Hp) → Prop
  | none => v = .agg #[.slice none (0 : Nat) (0 : Nat), .bool false]
  | some l => ∃ A c, v = .agg #[.slice A l.length c, .bool true] ∧ RowAt w A 3 encHp l ∧ l.length ≤ c
theorem PathAt.kept {w w' : World} {v : Value} {p : Option (List Hp)} (h : PathAt w v p) (hk : Kept w w') : PathAt w' v p := by
  cases p with
  | none => exact h
  | some l => obtain ⟨A, c, e, hr, hl⟩ := h; exact ⟨A, c, e, hr.kept hk, hl⟩
/-- Whether a path is before another one. -/
def betB : Option (List Hp) → Option (List Hp) → Bool
  | none, _ => false
  | some _, none => true
  | some a, some b => if a.length = b.length then decide (cmpL a b < 0) else decide (a.length < b.length)

set_option maxHeartbeats 4000000 in
theorem better_any (u v : Value) (p q : Option (List Hp)) (w : World) (hp : PathAt w u p) (hq : PathAt w v q) (lp : ∀ l, p = some l → l.length ≤ 15) (lq : ∀ l, q = some l → l.length ≤ 15) :
    Calls Try.prog 50 #[u, v] w fun e w' => e = .returned (.bool (betB p q)) ∧ Below w.heap.size w w' := by
  cases p with
  | none =>
    cases q with
    | none =>
      subst hp hq
      go_enter Try.func50, Try.ntmps50
      go_wp2
      go_ret
      exact ⟨rfl, by (repeat (first | exact Below.refl _ _ | (with_reducible exact Hid.out (by assumption)) | refine below_al ?_ _ | refine below_dr ?_ | refine below_tr ?_ (by assumption) | refine below_tr ?_ (Bel.out (by assumption)) | refine below_tr ?_ (Bel.out (ov_bel _ _)) | refine below_set ?_ (by simp; try omega)))⟩
    | some b =>
      obtain ⟨B, cb, rfl, hrb, hlb⟩ := hq
      subst hp
      replace hrb := Lib.hid hrb
      go_enter Try.func50, Try.ntmps50
      go_wp2
      go_ret
      exact ⟨rfl, by (repeat (first | exact Below.refl _ _ | (with_reducible exact Hid.out (by assumption)) | refine below_al ?_ _ | refine below_dr ?_ | refine below_tr ?_ (by assumption) | refine below_tr ?_ (Bel.out (by assumption)) | refine below_tr ?_ (Bel.out (ov_bel _ _)) | refine below_set ?_ (by simp; try omega)))⟩
  | some a =>
    cases q with
    | none =>
      obtain ⟨B, cb, rfl, hrb, hlb⟩ := hp
      subst hq
      replace hrb := Lib.hid hrb
      go_enter Try.func50, Try.ntmps50
      go_wp2
      go_ret
      exact ⟨rfl, by (repeat (first | exact Below.refl _ _ | (with_reducible exact Hid.out (by assumption)) | refine below_al ?_ _ | refine below_dr ?_ | refine below_tr ?_ (by assumption) | refine below_tr ?_ (Bel.out (by assumption)) | refine below_tr ?_ (Bel.out (ov_bel _ _)) | refine below_set ?_ (by simp; try omega)))⟩
    | some b =>
      obtain ⟨A, ca, rfl, hra, hla⟩ := hp
      obtain ⟨B, cb, rfl, hrb, hlb⟩ := hq
      replace lp := lp a rfl
      replace lq := lq b rfl
      have HC := Lib.hid (fun (W : World) (hb : Below w.heap.size w W) => compare_any A B ca cb a b W (hra.kept (kept_of_below hb)) (hrb.kept (kept_of_below hb)) lp lq)
      clear hra hrb
      cases he : decide (a.length = b.length) with
      | true =>
        have he' := of_decide_eq_true he
        have hed : (a.length != b.length) = false := by simp [he']
        have hre : Hid (betB (some a) (some b) = decide (cmpL a b < 0)) := Lib.hid (by simp only [betB]; rw [if_pos he'])
        rw [hre.out]
        rw [he'] at HC
        go_enter Try.func50, Try.ntmps50
        go_wp2_with fail
        refine (HC.out _ (by (repeat (first | exact Below.refl _ _ | (with_reducible exact Hid.out (by assumption)) | refine below_al ?_ _ | refine below_dr ?_ | refine below_tr ?_ (by assumption) | refine below_tr ?_ (Bel.out (by assumption)) | refine below_tr ?_ (Bel.out (ov_bel _ _)) | refine below_set ?_ (by simp; try omega))))).mono ?_
        rintro e w1 ⟨rfl, hb1⟩
        replace hb1 : Hid (Below w.heap.size w w1) := Lib.hid (below_tr (by (repeat (first | exact Below.refl _ _ | (with_reducible exact Hid.out (by assumption)) | refine below_al ?_ _ | refine below_dr ?_ | refine below_tr ?_ (by assumption) | refine below_tr ?_ (Bel.out (by assumption)) | refine below_tr ?_ (Bel.out (ov_bel _ _)) | refine below_set ?_ (by simp; try omega)))) hb1)
        go_wp2
        go_ret
        exact ⟨rfl, hb1.out⟩
      | false =>
        have he' := of_decide_eq_false he
        have hed : (a.length != b.length) = true := by simp [he']
        have hre : Hid (betB (some a) (some b) = decide (a.length < b.length)) := Lib.hid (by simp only [betB]; rw [if_neg he'])
        rw [hre.out]
        go_enter Try.func50, Try.ntmps50
        go_wp2_with fail
        go_ret
        exact ⟨rfl, by (repeat (first | exact Below.refl _ _ | (with_reducible exact Hid.out (by assumption)) | refine below_al ?_ _ | refine below_dr ?_ | refine below_tr ?_ (by assumption) | refine below_tr ?_ (Bel.out (by assumption)) | refine below_tr ?_ (Bel.out (ov_bel _ _)) | refine below_set ?_ (by simp; try omega)))⟩
end Go.Proofs.Ytdfohielnfdmkaa

/- A hop ahead of a list of hops. -/
set_option linter.unusedVariables false
set_option linter.unusedSimpArgs false
namespace Go.Proofs.Ytdfohielnfdmkaa
open Go.RowKit
theorem info_hop : (Try.prog.info? 63).map (fun i => (i.zero, i.size, i.bytes)) = some (some (.agg #[.int .i64 0, .int .i64 0, .int .i64 0]), 3, 24) := by kernel_rfl
theorem flat_inv {α : Type} (enc : α → List Value) (k : Nat) (hk0 : 0 < k) (hk : ∀ x, (enc x).length = k) : ∀ (xs : List α) (j : Nat) (u : Value), (xs.flatMap enc)[j]? = some u → ∃ x, xs[j / k]? = some x ∧ (enc x)[j % k]? = some u
  | [], j, u, h => by simp at h
  | y :: ys, j, u, h => by
    rw [List.flatMap_cons] at h
    rcases Nat.lt_or_ge j k with hj | hj
    · rw [List.getElem?_append_left (by rw [hk]; exact hj)] at h
      exact ⟨y, by rw [Nat.div_eq_of_lt hj]; rfl, by rw [Nat.mod_eq_of_lt hj]; exact h⟩
    · rw [List.getElem?_append_right (by rw [hk]; exact hj), hk] at h
      obtain ⟨x, h1, h2⟩ := flat_inv enc k hk0 hk ys (j - k) u h
      have e : j = (j - k) + k := by omega
      refine ⟨x, ?_, ?_⟩
      · rw [e, Nat.add_div_right _ hk0]; simpa using h1
      · rw [e, Nat.add_mod_right]; exact h2
/-- The cells of a row of hops. -/
theorem flat_cells {w : World} {b o : Nat} {xs : List Hp} (h : RowAt w (some ⟨b, o, none⟩) 3 encHp xs) (j : Nat) (u : Value) (hj : (xs.flatMap encHp)[j]? = some u) : w.cell? ((⟨b, o, none⟩ : Addr).add j) = some u := by
  obtain ⟨x, h1, h2⟩ := flat_inv encHp 3 (by omega) (fun _ => rfl) xs j u hj
  obtain ⟨b', o', hA, hc⟩ := h _ _ h1
  cases hA
  have := hc _ _ h2
  have e : (⟨b, o, none⟩ : Addr).add j = ⟨b, o + j / 3 * 3 + j % 3, none⟩ := by
    have hd := Nat.div_add_mod j 3
    unfold Addr.add
    split
    · rename_i h0; subst h0; rfl
    · show (⟨b, o + j, none⟩ : Addr) = _
      congr 1
      omega
  rw [e]; exact this
theorem flat_len (xs : List Hp) : (xs.flatMap encHp).length = xs.length * 3 := by
  induction xs with
  | nil => rfl
  | cons x xs ih => rw [List.flatMap_cons, List.length_append, ih, List.length_cons]; simp only [encHp, List.length_cons, List.length_nil]; omega
theorem hp_one {xs : List Hp} (u : Value) (h : u ∈ xs.flatMap encHp) : u.oneCell' = true := by
  obtain ⟨x, _, hx⟩ := List.mem_flatMap.1 h
  simp [encHp] at hx
  rcases hx with rfl | rfl | rfl <;> rfl
/-- A hop ahead of a list of hops. -/
theorem cons_hop (w : World) (x : Hp) (l : List Hp) (A : Option Addr) (c : Nat) (hr : RowAt w A 3 encHp l) (hl : l.length ≤ 100) :
    ∃ v' W', (Builtin.append_ #[56, 56] 56 #[.slice (some ⟨w.heap.size, 0, none⟩) 1 1, .slice A l.length c]).run Try.prog (w.alloc (.cells #[.int .i64 x.a, .int .i64 x.b, .int .i64 x.h] 63)) = .ok v' W' ∧
      Below w.heap.size w W' ∧ ∃ A' c', v' = .slice A' (l.length + 1) c' ∧ RowAt W' A' 3 encHp (x :: l) ∧ l.length + 1 ≤ c' := by
  obtain ⟨i0, hi0, hz0, hz1, hz2⟩ := info_parts info_hop
  have hown : (w.alloc (.cells #[.int .i64 x.a, .int .i64 x.b, .int .i64 x.h] 63)).ownsRow w.heap.size 63 3 (.slice (some ⟨w.heap.size, 0, none⟩) 1 1) 1 ([x].flatMap encHp) :=
    ⟨rfl, .inr ⟨w.heap.size, 1, #[.int .i64 x.a, .int .i64 x.b, .int .i64 x.h], rfl, Nat.le_refl _, by rw [World.alloc, Array.getElem?_push_size], Nat.le_refl _, by decide, rfl, rfl⟩⟩
  have hb0 : Below w.heap.size w (w.alloc (.cells #[.int .i64 x.a, .int .i64 x.b, .int .i64 x.h] 63)) := by (repeat (first | exact Below.refl _ _ | (with_reducible exact Hid.out (by assumption)) | refine below_al ?_ _ | refine below_dr ?_ | refine below_tr ?_ (by assumption) | refine below_tr ?_ (Bel.out (by assumption)) | refine below_tr ?_ (Bel.out (ov_bel _ _)) | refine below_set ?_ (by simp; try omega)))
  cases l with
  | nil =>
    obtain ⟨A', c', e, hrow, hle, _⟩ := row_of_owns (k := 3) (enc := encHp) (xs := [x]) (fun _ => rfl) hown
    refine ⟨.slice (some ⟨w.heap.size, 0, none⟩) 1 1, _, ?_, hb0, A', c', e, hrow, hle⟩
    cases A with
    | none => simp [Builtin.append_, run_underlying Try.underlying56, sizeOf, typeInfo, hi0, Builtin.lenOf, Builtin.firstCells, loadCells, loadCellsFrom, storeCells]
    | some a => simp [Builtin.append_, run_underlying Try.underlying56, sizeOf, typeInfo, hi0, Builtin.lenOf, Builtin.firstCells, loadCells, loadCellsFrom, storeCells]
  | cons y ys =>
    obtain ⟨b, o, hA, _⟩ := hr 0 y rfl
    subst hA
    have hr2 := hr.kept (kept_of_below hb0)
    obtain ⟨v', W', h1, h2, h3, _⟩ := run_append_own (P := Try.prog) (w.alloc (.cells #[.int .i64 x.a, .int .i64 x.b, .int .i64 x.h] 63)) w.heap.size 56 56 63 i0 _ 3 24 Try.underlying56 hi0 hz0 hz1 hz2 rfl (by omega) _ 1 _ hown
      ⟨b, o, none⟩ (y :: ys).length c ((y :: ys).flatMap encHp) (flat_len (y :: ys)) (fun j u hj => flat_cells hr2 j u hj) hp_one (by simp only [maxLen]; omega) (by omega) (by simp)
    have e2 : [x].flatMap encHp ++ (y :: ys).flatMap encHp = (x :: y :: ys).flatMap encHp := by simp
    rw [e2, show 1 + (y :: ys).length = (x :: y :: ys).length by simp; omega] at h2
    obtain ⟨A', c', e, hrow, hle, _⟩ := row_of_owns (k := 3) (enc := encHp) (fun _ => rfl) h2
    exact ⟨v', W', h1, hb0.grown h3 (by simp) (fun k hk => by cases hk; exact Nat.le_refl _), A', c', e, hrow, hle⟩
end Go.Proofs.Ytdfohielnfdmkaa

