/- Part KG of the proof: R1 · W10 · O2 · W11. -/
import Derived.RangeFuncBound
import Derived.RangeFuncCalls
import Derived.Shelf.Abstract
import Derived.LoopNIn
import Derived.LoopIn
import Derived.Test.YtdfohielnfdmkaaKE
import Derived.Test.YtdfohielnfdmkaaKF
set_option linter.unusedVariables false
set_option linter.unusedSimpArgs false
/- Walks: the clouds that block between two stations (package hill): the maker of the iterator, and what the iterator yields. -/
set_option linter.unusedVariables false
set_option linter.unusedSimpArgs false
namespace Go.Proofs.Ytdfohielnfdmkaa
open Go.RowKit
attribute [local go_sem low] cell_alloc_ite frozen_alloc_ite ov_cell ov_frozen
attribute [local go_sem] Oper.semAt_some

/-- Whether a cloud blocks between two stations at an hour. -/
def clB (a c : Sta) (h : Int) (x : Clo) : Bool := inR h x.f x.t && blocksB x.w a c
/-- The boxes of an iterator over clouds. -/
structure ClBox (w : World) (b0 b1 b2 b3 p : Nat) (f t k h : Int) : Prop where
  c0 : w.cell? ⟨b0, 0, none⟩ = some (.pointer (some ⟨p, 0, none⟩))
  c1 : w.cell? ⟨b1, 0, none⟩ = some (.int .i64 f)
  c1' : w.cell? ⟨b1, 1, none⟩ = some (.int .i64 t)
  c2 : w.cell? ⟨b2, 0, none⟩ = some (.int .i64 k)
  c3 : w.cell? ⟨b3, 0, none⟩ = some (.int .i64 h)
theorem ClBox.kept {w w' : World} {b0 b1 b2 b3 p : Nat} {f t k h : Int} (c : ClBox w b0 b1 b2 b3 p f t k h) (hk : Kept w w') : ClBox w' b0 b1 b2 b3 p f t k h :=
  ⟨hk _ _ c.c0, hk _ _ c.c1, hk _ _ c.c1', hk _ _ c.c2, hk _ _ c.c3⟩
/-- An iterator over clouds was made. -/
def ClMade (p : Nat) (f t k h : Int) (w : World) (e : Ending) (w' : World) : Prop :=
  ∃ b0 b1 b2 b3, e = .returned (.func (.func 107) #[] #[.pointer (some ⟨b0, 0, none⟩), .pointer (some ⟨b2, 0, none⟩), .pointer (some ⟨b3, 0, none⟩), .pointer (some ⟨b1, 0, none⟩)]) ∧ Below w.heap.size w w' ∧ ClBox w' b0 b1 b2 b3 p f t k h

theorem clouds_made (p : Nat) (f t k h : Int) (w : World) :
    Calls Try.prog 104 #[.pointer (some ⟨p, 0, none⟩), .agg #[.int .i64 f, .int .i64 t], .int .i64 k, .int .i64 h] w (ClMade p f t k h w) := by
  go_enter Try.func104, Try.ntmps104
  go_wp2
  go_ret
  exact ⟨w.heap.size, w.heap.size + 1, w.heap.size + 2, w.heap.size + 3, rfl, by (repeat (first | exact Below.refl _ _ | (with_reducible exact Hid.out (by assumption)) | refine below_al ?_ _ | refine below_dr ?_ | refine below_tr ?_ (by assumption) | refine below_tr ?_ (Bel.out (by assumption)) | refine below_tr ?_ (Bel.out (ov_bel _ _)) | refine below_set ?_ (by simp; try omega))), ⟨(by (try go_simp); (repeat (simp only [↓IntWalk.iteOmega]; (try go_simp))); (try omega)), (by (try go_simp); (repeat (simp only [↓IntWalk.iteOmega]; (try go_simp))); (try omega)), (by (try go_simp); (repeat (simp only [↓IntWalk.iteOmega]; (try go_simp))); (try omega)), (by (try go_simp); (repeat (simp only [↓IntWalk.iteOmega]; (try go_simp))); (try omega)), (by (try go_simp); (repeat (simp only [↓IntWalk.iteOmega]; (try go_simp))); (try omega))⟩⟩

/-- The loop over the clouds: m of them seen. -/
def ClRel (xs : List Clo) (a c : Sta) (h : Int) (J : List Int → World → Prop) (w : World) (v : Value) (wr : World) : Prop :=
  ∃ (m : Nat) (pre : List Int), m ≤ xs.length ∧ v = .int .i64 m ∧ pre.length ≤ m ∧ (!pre.isEmpty) = (xs.take m).any (clB a c h) ∧ J pre wr ∧ Below w.heap.size w wr
theorem any_next {xs : List Clo} {m : Nat} {x : Clo} (q : Clo → Bool) (h : xs[m]? = some x) : (xs.take (m + 1)).any q = ((xs.take m).any q || q x) := by
  obtain ⟨hl, he⟩ := List.getElem?_eq_some_iff.1 h
  rw [List.take_succ_eq_append_getElem hl, List.any_append, he]
  simp

set_option maxRecDepth 100000 in
set_option maxHeartbeats 8000000 in
theorem clouds_stops (p r b0 b1 b2 b3 : Nat) (V : LV) (L : Lnd) (i j k : Nat) (hr : Int) (a c : Sta) (xs : List Clo) (w : World) (h : HW w p r V L) (ok : Okay L) (hi : L.st[i]? = some a) (hj : L.st[j]? = some c) (hk : L.ca[k]? = some xs)
    (hb : ClBox w b0 b1 b2 b3 p i j k hr) (n : Nat) :
    SeqStopsK Fence.wide n Try.prog 107 #[.pointer (some ⟨b0, 0, none⟩), .pointer (some ⟨b2, 0, none⟩), .pointer (some ⟨b3, 0, none⟩), .pointer (some ⟨b1, 0, none⟩)] (fun x : Int => #[.int .i64 x]) (Below w.heap.size)
      (fun ys => (!ys.isEmpty) = xs.any (clB a c hr)) (fun ys => xs.any (clB a c hr) = true) xs.length w := fun l J Jx W0 hW0 hJ hJx hY h0 => by
  obtain ⟨a0, c0, a1, c1, a2, c2, a3, c3⟩ := V
  have H := Lib.hid h
  have HI := Lib.hid hi
  have HJ := Lib.hid hj
  have HK := Lib.hid hk
  have OK := Lib.hid ok
  have HB := Lib.hid hb
  replace hY := Lib.hid hY
  replace hJ := Lib.hid hJ
  replace hJx := Lib.hid hJx
  replace h0 := Lib.hid h0
  obtain ⟨b2c, o2c, A', c', hA2, e2, hl1, hl2, hrow⟩ := h.rd.ca k xs hk
  simp only at hA2
  subst hA2
  replace e2 := kept_of_below hW0 _ _ e2
  replace hrow := Lib.hid hrow
  have p2 := (H.out.below hW0).cells 2 _ rfl
  have q0 := (HB.out.kept (kept_of_below hW0)).c0
  have q2 := (HB.out.kept (kept_of_below hW0)).c2
  have hlp := cell_lt p2
  have hlq0 := cell_lt q0
  have hlq2 := cell_lt q2
  have hle2 := cell_lt e2
  simp only at hlp hlq0 hlq2 hle2 p2
  have lk := (List.getElem?_eq_some_iff.1 hk).1
  have hcl := ok.c1
  have hkl := ok.k1 _ (List.mem_of_getElem? hk)
  clear h hi hj hk hb hl1 hl2 ok
  (refine callsIn_of_wp Try.func107 rfl trivial ?_ rfl; simp only [Try.ntmps107, List.size_toArray, List.length_cons, List.length_nil, Nat.reduceAdd, Nat.reduceSub, Array.replicate_succ, Array.replicate_zero, List.push_toArray, List.append_toArray, List.nil_append, List.cons_append])
  gi_wp2
  (refine wpIn_region_ovP 10 0 (fun _ => trivial) rfl (fun _ _ _ _ h => callsIn_wide.2 h) (by kernel_rfl) rfl (by kernel_rfl) (by kernel_rfl) (fun R hR => ?_); simp only [List.take_succ_cons, List.take_zero]; (repeat (go_big_quiet_step (fail))); refine wpQuiet_nil ?_; refine hR.out _ ?_; clear hR R; intro W hW kk; have hc := hW.cells; have hf := hW.frozens; have hz := hW.size; (try simp at hz))
  (refine wpAnyIn_done (by kernel_rfl) ?_ _)
  gi_wp2
  have hBW : Below w.heap.size w W := below_tr hW0 hW
  clear p2 q0 q2 e2 hc hf hz hlp hlq0 hlq2 hle2
  gi_loopw [17] (fun v wr => ClRel xs a c hr J w v wr) (fun v _ => xs.length - (intOf v).toNat)
  case atStart => exact ⟨0, [], Nat.zero_le _, rfl, Nat.le_refl _, by simp, hJ.out [] W0 W none h0.out (grown_of_below hW none) (fun _ e => by cases e), hBW⟩
  case round =>
    clear hBW
    obtain ⟨m, pre, hm, rfl, hpl, hpre, hjp, hBW⟩ := hrel
    replace hjp := Lib.hid hjp
    replace hpre := Lib.hid hpre
    replace hBW := Lib.hid hBW
    have hk := kept_of_below hBW.out
    have p0 := (H.out.below hBW.out).cells 0 _ rfl
    have q0 := (HB.out.kept hk).c0
    have q1 := (HB.out.kept hk).c1
    have q1' := (HB.out.kept hk).c1'
    have q3 := (HB.out.kept hk).c3
    have hlp := cell_lt p0
    have hlq0 := cell_lt q0
    have hlq1 := cell_lt q1
    have hlq3 := cell_lt q3
    simp only at hlp hlq0 hlq1 hlq3 p0
    have hs1 := OK.out.s1
    have li := (List.getElem?_eq_some_iff.1 HI.out).1
    have lj := (List.getElem?_eq_some_iff.1 HJ.out).1
    obtain ⟨b1', o1, hA1, s0, s1, s2, s3⟩ := (H.out.below hBW.out).rd.st.sta HI.out
    simp only at hA1
    subst hA1
    obtain ⟨b2', o2, hA1, t0, t1, t2, t3⟩ := (H.out.below hBW.out).rd.st.sta HJ.out
    cases hA1
    have hls := cell_lt s0
    simp only at hls
    by_cases hlt : m < xs.length
    · have hx := List.getElem?_eq_getElem hlt
      obtain ⟨b3', o3, hA3, e0, e1, e2, e3, e4, e5, e6, e7⟩ := (hrow.out.kept hk).clo hx
      have hok := OK.out.ca _ (List.mem_of_getElem? HK.out) _ (List.mem_of_getElem? hx)
      generalize xs[m] = x at *
      subst hA3
      have hle := cell_lt e0
      simp only at hle
      have HX := Lib.hid hx
      clear hx hk
      obtain ⟨⟨x1, y1, x2, y2, xb, xt⟩, xf, xu⟩ := x
      simp only at e0 e1 e2 e3 e4 e5 e6 e7
      simp only [cloOk, Bool.and_eq_true] at hok
      have HC := Lib.hid (fun W => blocks_any x1 y1 x2 y2 xb xt a.x a.y a.z a.m c.x c.y c.z c.m W hok.1.1 (OK.out.st a (List.mem_of_getElem? HI.out)) (OK.out.st c (List.mem_of_getElem? HJ.out)))
      clear hok
      simp only [show (⟨a.x, a.y, a.z, a.m⟩ : Sta) = a from rfl, show (⟨c.x, c.y, c.z, c.m⟩ : Sta) = c from rfl] at HC
      have HIN := Lib.hid (fun W => within_any hr xf xu W)
      cases hin : inR hr xf xu with
      | false =>
        have hcl : clB a c hr ⟨⟨x1, y1, x2, y2, xb, xt⟩, xf, xu⟩ = false := by simp [clB, hin]
        replace hcl := Lib.hid hcl
        simp only [hin] at HIN
        gi_wp2
        (refine wpIn_region_ovP 35 0 (fun _ => trivial) rfl (fun _ _ _ _ h => callsIn_wide.2 h) (by kernel_rfl) rfl (by kernel_rfl) (by kernel_rfl) (fun R hR => ?_); simp only [List.take_succ_cons, List.take_zero]; (repeat (go_big_quiet_step ((go_at_call 74; exact calls_ov_same (HIN.out _))))); refine wpQuiet_nil ?_; refine hR.out _ ?_; clear hR R; intro W hW kk; have hc := hW.cells; have hf := hW.frozens; have hz := hW.size; (try simp at hz))
        (refine wpAnyIn_done (by kernel_rfl) ?_ _)
        gi_wp2
        go_roundw
        case rel => exact ⟨m + 1, pre, by omega, by go_num, by omega, by rw [any_next _ HX.out, hcl.out, Bool.or_false]; exact hpre.out, hJ.out pre wr _ none hjp.out (grown_of_below (by (repeat (first | exact Below.refl _ _ | (with_reducible exact Hid.out (by assumption)) | refine below_al ?_ _ | refine below_dr ?_ | refine below_tr ?_ (by assumption) | refine below_tr ?_ (Bel.out (by assumption)) | refine below_tr ?_ (Bel.out (ov_bel _ _)) | refine below_set ?_ (by simp; try omega)))) none) (fun _ e => by cases e), below_tr hBW.out (by (repeat (first | exact Below.refl _ _ | (with_reducible exact Hid.out (by assumption)) | refine below_al ?_ _ | refine below_dr ?_ | refine below_tr ?_ (by assumption) | refine below_tr ?_ (Bel.out (by assumption)) | refine below_tr ?_ (Bel.out (ov_bel _ _)) | refine below_set ?_ (by simp; try omega))))⟩
        case measure => simp [intOf]; omega
      | true =>
        simp only [hin] at HIN
        cases hbl : blocksB ⟨x1, y1, x2, y2, xb, xt⟩ a c with
        | false =>
          have hcl : clB a c hr ⟨⟨x1, y1, x2, y2, xb, xt⟩, xf, xu⟩ = false := by simp [clB, hbl]
          replace hcl := Lib.hid hcl
          simp only [hbl] at HC
          gi_wp2
          (refine wpIn_region_ovP 35 0 (fun _ => trivial) rfl (fun _ _ _ _ h => callsIn_wide.2 h) (by kernel_rfl) rfl (by kernel_rfl) (by kernel_rfl) (fun R hR => ?_); simp only [List.take_succ_cons, List.take_zero]; (repeat (go_big_quiet_step ((first | (go_at_call 74; exact calls_ov_same (HIN.out _)) | (go_at_call 106; exact calls_ov (HC.out _)))))); refine wpQuiet_nil ?_; refine hR.out _ ?_; clear hR R; intro W hW kk; have hc := hW.cells; have hf := hW.frozens; have hz := hW.size; (try simp at hz))
          (refine wpAnyIn_done (by kernel_rfl) ?_ _)
          gi_wp2
          go_roundw
          case rel => exact ⟨m + 1, pre, by omega, by go_num, by omega, by rw [any_next _ HX.out, hcl.out, Bool.or_false]; exact hpre.out, hJ.out pre wr _ none hjp.out (grown_of_below (by (repeat (first | exact Below.refl _ _ | (with_reducible exact Hid.out (by assumption)) | refine below_al ?_ _ | refine below_dr ?_ | refine below_tr ?_ (by assumption) | refine below_tr ?_ (Bel.out (by assumption)) | refine below_tr ?_ (Bel.out (ov_bel _ _)) | refine below_set ?_ (by simp; try omega)))) none) (fun _ e => by cases e), below_tr hBW.out (by (repeat (first | exact Below.refl _ _ | (with_reducible exact Hid.out (by assumption)) | refine below_al ?_ _ | refine below_dr ?_ | refine below_tr ?_ (by assumption) | refine below_tr ?_ (Bel.out (by assumption)) | refine below_tr ?_ (Bel.out (ov_bel _ _)) | refine below_set ?_ (by simp; try omega))))⟩
          case measure => simp [intOf]; omega
        | true =>
          have hcl : clB a c hr ⟨⟨x1, y1, x2, y2, xb, xt⟩, xf, xu⟩ = true := by simp [clB, hbl, hin]
          replace hcl := Lib.hid hcl
          simp only [hbl] at HC
          gi_wp2
          (refine wpIn_region_ovP 32 3 (fun _ => trivial) rfl (fun _ _ _ _ h => callsIn_wide.2 h) (by kernel_rfl) rfl (by kernel_rfl) (by kernel_rfl) (fun R hR => ?_); simp only [List.take_succ_cons, List.take_zero]; (repeat (go_big_quiet_step ((first | (go_at_call 74; exact calls_ov_same (HIN.out _)) | (go_at_call 106; exact calls_ov (HC.out _)))))); refine wpQuiet_nil ?_; refine hR.out _ ?_; clear hR R; intro W hW kk; have hc := hW.cells; have hf := hW.frozens; have hz := hW.size; (try simp at hz))
          obtain ⟨fn, tmps, assign, body, hy, hR⟩ := hY.out pre (m : Int) W (hJ.out pre wr W none hjp.out (grown_of_below (by (repeat (first | exact Below.refl _ _ | (with_reducible exact Hid.out (by assumption)) | refine below_al ?_ _ | refine below_dr ?_ | refine below_tr ?_ (by assumption) | refine below_tr ?_ (Bel.out (by assumption)) | refine below_tr ?_ (Bel.out (ov_bel _ _)) | refine below_set ?_ (by simp; try omega)))) none) (fun _ e => by cases e)) (by omega)
          (refine wpAnyIn_wantW (i := 32) (by kernel_rfl) rfl (by kernel_rfl) (fun K hK => ?_); go_simp; (repeat (simp only [↓IntWalk.iteOmega]; (try go_simp))); (try go_bits); try (refine hK _ _ ?_; clear hK K))
          refine ⟨fun h => by simp [Fence.wide] at h, hR.mono ?_⟩
          rintro e W' (⟨rfl, hJ', hk'⟩ | ⟨rfl, hJx'⟩)
          · replace hJ' := Lib.hid hJ'
            replace hk' := Lib.hid hk'
            dsimp only
            refine hK _ _ ?_
            clear hK K hy hR hc hf hz
            (refine wpAnyIn_wantW (i := 33) (by kernel_rfl) rfl (by kernel_rfl) (fun K hK => ?_); go_simp; (repeat (simp only [↓IntWalk.iteOmega]; (try go_simp))); (try go_bits); try (refine hK _ _ ?_; clear hK K))
            (refine wpAnyIn_wantW (i := 34) (by kernel_rfl) rfl (by kernel_rfl) (fun K hK => ?_); go_simp; (repeat (simp only [↓IntWalk.iteOmega]; (try go_simp))); (try go_bits); try (refine hK _ _ ?_; clear hK K))
            (refine wpAnyIn_done (by kernel_rfl) ?_ _)
            gi_wp2
            go_roundw
            case rel => exact ⟨m + 1, pre ++ [(m : Int)], by omega, by go_num, by simp; omega, by rw [any_next _ HX.out, hcl.out]; simp, hJ'.out, (below_tr hBW.out (by (repeat (first | exact Below.refl _ _ | (with_reducible exact Hid.out (by assumption)) | refine below_al ?_ _ | refine below_dr ?_ | refine below_tr ?_ (by assumption) | refine below_tr ?_ (Bel.out (by assumption)) | refine below_tr ?_ (Bel.out (ov_bel _ _)) | refine below_set ?_ (by simp; try omega))))).trans hk'.out⟩
            case measure => simp [intOf]; omega
          · replace hJx' := Lib.hid hJx'
            dsimp only
            refine hK _ _ ?_
            clear hK K hy hR hc hf hz
            (refine wpAnyIn_wantW (i := 33) (by kernel_rfl) rfl (by kernel_rfl) (fun K hK => ?_); go_simp; (repeat (simp only [↓IntWalk.iteOmega]; (try go_simp))); (try go_bits); try (refine hK _ _ ?_; clear hK K))
            (refine wpAnyIn_wantW (i := 34) (by kernel_rfl) rfl (by kernel_rfl) (fun K hK => ?_); go_simp; (repeat (simp only [↓IntWalk.iteOmega]; (try go_simp))); (try go_bits); try (refine hK _ _ ?_; clear hK K))
            (refine wpAnyIn_done (by kernel_rfl) ?_ _)
            gi_wp2
            refine bodyPost_ret (results_none rfl _ _ _) rfl ?_
            exact ⟨⟨_, rfl⟩, .inr ⟨_, List.any_eq_true.2 ⟨_, List.mem_of_getElem? HX.out, hcl.out⟩, hJx'.out⟩⟩
    · have hmx : m = xs.length := by omega
      replace hmx := Lib.hid hmx
      gi_wp2
      go_end0
      exact ⟨⟨_, rfl⟩, .inl ⟨pre, by rw [hpre.out, hmx.out, List.take_length], hjp.out⟩⟩
end Go.Proofs.Ytdfohielnfdmkaa

/- Walks: why a station cannot flash to another one (package hill). -/
set_option linter.unusedVariables false
set_option linter.unusedSimpArgs false
namespace Go.Proofs.Ytdfohielnfdmkaa
open Go.RowKit
attribute [local go_sem low] cell_alloc_ite frozen_alloc_ite ov_cell ov_frozen
attribute [local go_sem] Oper.semAt_some

/-- A function that holds a range over a function returns, ahead of it. -/
theorem retM {F : Fence} {n : Nat} {P : Program} {fn : Func} {R : Ending → World → Prop} {tmps : Array Value} {w : World} (v : Value) (h : (results fn tmps).run P w = .ok v w) (hR : R (.returned v) w) :
    bodyPostM F n P fn R .ret { tmps := tmps, defers := [] } w := ⟨v, h, hR⟩
/-- .. behind it. -/
theorem retMk {F : Fence} {n : Nat} {P : Program} {fn : Func} {R : Ending → World → Prop} {tmps : Array Value} {w : World} {D : Nat} (hK : w.heap[D]? = some (.deferred (some []))) (v : Value)
    (h : (results fn tmps).run P (w.putObj D (.deferred none)) = .ok v (w.putObj D (.deferred none))) (hR : R (.returned v) (w.putObj D (.deferred none))) :
    bodyPostM F n P fn R .ret { tmps := tmps, defers := [{ target := .collected D, args := #[] }] } w := ⟨by simp, .inl ⟨_, _, rfl, run_takeDeferred hK, v, h, hR⟩⟩
theorem kept_grown {W W' : World} {row : Option Nat} (hg : W.grownBy W' row) (hrow : ∀ r, row = some r → ∃ o : Obj, W.heap[r]? = some o ∧ o.isCells = false) : Kept W W' := fun a v hv => cell_kept hv hg hrow
theorem kept_collected {W : World} {D : Nat} {x : Option (List Deferred)} (hK : W.heap[D]? = some (.deferred x)) (o : Obj) : Kept W (W.putObj D o) :=
  kept_grown (grownBy_putObj' W D o) (fun r e => by cases e; exact ⟨_, hK, rfl⟩)
theorem below_put {n : Nat} {w W : World} {D : Nat} (h : Below n w W) (hn : n ≤ D) {x : Obj} (hK : W.heap[D]? = some x) (o : Obj) : Below n w (W.putObj D o) :=
  h.grown (grownBy_putObj' W D o) (by have := (Array.getElem?_eq_some_iff.1 hK).1; omega) (fun k e => by cases e; omega)

/-- Every cell that holds an int does so behind it. -/
def KeptI (w w' : World) : Prop := ∀ (a : Addr) (n : Int), w.cell? a = some (.int .i64 n) → ∃ n', w'.cell? a = some (.int .i64 n')
theorem KeptI.of {w w' : World} (h : Kept w w') : KeptI w w' := fun a n hv => ⟨n, h _ _ hv⟩
theorem KeptI.trans {a b c : World} (h : KeptI a b) (k : KeptI b c) : KeptI a c := fun p n hv => let ⟨m, hm⟩ := h p n hv; k p m hm
theorem KeptI.set {w : World} {p : Addr} {v : Value} (h : (∃ n, v = .int .i64 n) ∨ ∀ n, w.cell? p ≠ some (.int .i64 n)) : KeptI w (w.setCell p v) := by
  intro a n hv
  by_cases e : a = p
  · subst e
    rcases h with ⟨m, rfl⟩ | h
    · exact ⟨m, World.cell?_setCell_same' _ _ _ (by rw [hv]; rfl)⟩
    · exact absurd hv (h n)
  · exact ⟨n, (World.cell?_setCell_other _ _ _ _ (Ne.symm e)).trans hv⟩
theorem RowAt.keptI {w w' : World} {A : Option Addr} {xs : List Int} (h : RowAt w A 1 encInt xs) (hk : KeptI w w') : ∃ ys, ys.length = xs.length ∧ RowAt w' A 1 encInt ys := by
  cases xs with
  | nil => exact ⟨[], rfl, RowAt.nil _ _ _ _⟩
  | cons x0 xs0 =>
    obtain ⟨b, o, hA, _⟩ := h.num (i := 0) (x := x0) rfl
    subst hA
    have hex : ∀ i : Nat, ∃ y : Int, i < (x0 :: xs0).length → w'.cell? ⟨b, o + i, none⟩ = some (.int .i64 y) := by
      intro i
      by_cases hi : i < (x0 :: xs0).length
      · obtain ⟨b', o', hA', hc⟩ := h.num (List.getElem?_eq_getElem hi)
        cases hA'
        obtain ⟨y, hy⟩ := hk _ _ hc
        exact ⟨y, fun _ => hy⟩
      · exact ⟨0, fun h => absurd h hi⟩
    refine ⟨(List.range (x0 :: xs0).length).map fun i => Classical.choose (hex i), by simp, ?_⟩
    intro i y hy
    rw [List.getElem?_map] at hy
    cases hr : (List.range (x0 :: xs0).length)[i]? with
    | none => rw [hr] at hy; cases hy
    | some i' =>
      rw [hr] at hy
      obtain ⟨hl, he⟩ := List.getElem?_eq_some_iff.1 hr
      simp at he hl
      subst he
      simp at hy
      subst hy
      refine ⟨b, o, rfl, fun j v hv => ?_⟩
      match j, hv with
      | 0, hv => cases hv; simpa using Classical.choose_spec (hex i) (by simpa using hl)
theorem RidPhi.keptI {w w' : World} {L : Lnd} {f t : Int} {v : Value} (h : RidPhi w L f t v) (hk : KeptI w w') : RidPhi w' L f t v := by
  obtain ⟨A, c, xs, h1, h2, h3, h4⟩ := h
  obtain ⟨ys, h5, h6⟩ := h2.keptI hk
  refine ⟨A, c, ys, by rw [h5]; exact h1, h6, by omega, ?_⟩
  rw [← h4]
  cases xs <;> cases ys <;> simp_all
/-- Behind a change above what lay at the start. -/
theorem KeepM.trB {S : Nat → Prop} {w a b : World} (h : KeepM S w a) (k : Below w.heap.size a b) : KeepM S w b := by
  have hlt : ∀ i, S i → i < w.heap.size := fun i hi => (show MapsOf S w from h.old).lt hi
  exact ⟨k.os.trans h.os, k.tape.trans h.tape, k.output.trans h.output, Nat.le_trans h.size k.size, fun i hi hn => (k.block i hi).trans (h.block i hi hn), h.old, fun i hi => by
    obtain ⟨es, c, he⟩ := h.new i hi
    exact ⟨es, c, (k.block i (hlt i hi)).trans he⟩⟩

/-- Whether a station can flash to another one, of all that 'why' looks at. -/
def frB (L : Lnd) (i j : Nat) (a c : Sta) (s : Sun) (xs : List Clo) (h : Int) : Bool := decide (0 < s.u) && decide (mirI a c s ≤ a.m) && !ridB L i j && !xs.any (clB a c h)
/-- What 'why' gives. -/
def WhyMade (r : Nat) (L : Lnd) (fr : Bool) (w : World) (e : Ending) (w' : World) : Prop :=
  ∃ n x : Int, e = .returned (.tuple #[.int .u8 n, .int .i64 x]) ∧ (n == 0) = fr ∧ KeepM (fun k => k = r) w w' ∧ MapInv w' r (RidPhi w' L)

theorem cell_set {w : World} {a : Addr} {x : Value} (h : w.cell? a = some x) (v : Value) : (w.setCell a v).cell? a = some v := World.cell?_setCell_same' _ _ _ (by rw [h]; rfl)
theorem cell_set_ne {w : World} {b b' : Nat} {x : Value} (h : w.cell? ⟨b', 0, none⟩ = some x) (hne : b ≠ b') (v : Value) : (w.setCell ⟨b, 0, none⟩ v).cell? ⟨b', 0, none⟩ = some x :=
  (World.cell?_setCell_other _ _ _ _ (by intro e; cases e; exact hne rfl)).trans h

set_option maxRecDepth 100000 in
set_option maxHeartbeats 8000000 in
theorem why_any (p r : Nat) (V : LV) (L : Lnd) (i j k h : Nat) (a c : Sta) (xs : List Clo) (s : Sun) (w : World) (hw : HW w p r V L) (ok : Okay L) (hi : L.st[i]? = some a) (hj : L.st[j]? = some c) (hk : L.ca[k]? = some xs) (hs : L.su[h]? = some s) :
    Calls Try.prog 93 #[.pointer (some ⟨p, 0, none⟩), .agg #[.int .i64 i, .int .i64 j], .int .i64 k, .int .i64 h] w (WhyMade r L (frB L i j a c s xs h) w) := by
  have HM := Lib.hid (fun W (hW : Below w.heap.size w W) => mirrors_any p r V L i j h a c s W (hw.below hW) ok hi hj hs)
  have HR := Lib.hid (fun W (hW : Below w.heap.size w W) => ridges_any p r V L i j a c W (hw.below hW) ok hi hj)
  have HF : Hid (frB L i j a c s xs h = (decide (0 < s.u) && decide (mirI a c s ≤ a.m) && !ridB L i j && !xs.any (clB a c h))) := Lib.hid rfl
  obtain ⟨a0, c0, a1, c1, a2, c2, a3, c3⟩ := V
  obtain ⟨b, o, hA, e0, e1, e2, e3⟩ := hw.rd.st.sta hi
  obtain ⟨b2, o2, hA2, g0, g1, g2⟩ := hw.rd.su.sun hs
  have p0 := hw.cells 0 _ rfl
  have p3 := hw.cells 3 _ rfl
  have li := (List.getElem?_eq_some_iff.1 hi).1
  have lh := (List.getElem?_eq_some_iff.1 hs).1
  have hs1 := ok.s1
  have hu1 := ok.u1
  have hlp := cell_lt p0
  have hlb := cell_lt e0
  have hlb2 := cell_lt g0
  simp only at hlp hlb hlb2 hA hA2 p0 p3
  subst hA hA2
  have hlr := hw.map.maps.lt rfl
  have HW0 := Lib.hid hw
  have HI := Lib.hid hi
  have HJ := Lib.hid hj
  have HK := Lib.hid hk
  have OK := Lib.hid ok
  clear hw hi hj hk hs ok
  by_cases hu : s.u ≤ 0
  · have HN : Hid (frB L i j a c s xs h = false) := Lib.hid (by rw [HF.out, show decide (0 < s.u) = false by simpa using hu]; simp)
    clear HM HR HF e0 e1 e2 e3 p0
    (refine (callsIn_wide (n := 9)).1 ?_; refine callsIn_of_wp_marks Try.func93 rfl trivial (wpIn_wide.2 ?_) rfl; simp only [Try.ntmps93, List.size_toArray, List.length_cons, List.length_nil, Nat.reduceAdd, Nat.reduceSub, Array.replicate_succ, Array.replicate_zero, List.push_toArray, List.append_toArray, List.nil_append, List.cons_append])
    go_wp2
    exact retM (.tuple #[.int .u8 1, .int .i64 0]) (by simp [results, Try.results93, go_sem]) ⟨1, 0, rfl, by rw [HN.out]; rfl, .of_below HW0.out.map.maps (by (repeat (first | exact Below.refl _ _ | (with_reducible exact Hid.out (by assumption)) | refine below_al ?_ _ | refine below_dr ?_ | refine below_tr ?_ (by assumption) | refine below_tr ?_ (Bel.out (by assumption)) | refine below_tr ?_ (Bel.out (ov_bel _ _)) | refine below_set ?_ (by simp; try omega)))), (HW0.out.below (by (repeat (first | exact Below.refl _ _ | (with_reducible exact Hid.out (by assumption)) | refine below_al ?_ _ | refine below_dr ?_ | refine below_tr ?_ (by assumption) | refine below_tr ?_ (Bel.out (by assumption)) | refine below_tr ?_ (Bel.out (ov_bel _ _)) | refine below_set ?_ (by simp; try omega))))).map⟩
  · by_cases hm : a.m < mirI a c s
    · have HN : Hid (frB L i j a c s xs h = false) := Lib.hid (by rw [HF.out, show decide (mirI a c s ≤ a.m) = false by simpa using hm]; simp)
      clear HR HF
      (refine (callsIn_wide (n := 9)).1 ?_; refine callsIn_of_wp_marks Try.func93 rfl trivial (wpIn_wide.2 ?_) rfl; simp only [Try.ntmps93, List.size_toArray, List.length_cons, List.length_nil, Nat.reduceAdd, Nat.reduceSub, Array.replicate_succ, Array.replicate_zero, List.push_toArray, List.append_toArray, List.nil_append, List.cons_append])
      go_wp2
      (refine wp_region_ov (by kernel_rfl) (by kernel_rfl) (fun R hR => ?_); (repeat (go_big_quiet_step ((go_at_call 102; exact calls_ov (HM.out _ (by (repeat (first | exact Below.refl _ _ | (with_reducible exact Hid.out (by assumption)) | refine below_al ?_ _ | refine below_dr ?_ | refine below_tr ?_ (by assumption) | refine below_tr ?_ (Bel.out (by assumption)) | refine below_tr ?_ (Bel.out (ov_bel _ _)) | refine below_set ?_ (by simp; try omega))))))))); refine wpQuiet_nil ?_; refine hR.out _ ?_; clear hR R; intro W hW; have hc := hW.cells; have hf := hW.frozens; have hz := hW.size; (try simp at hz))
      go_wp2
      have y8 : W.cell? ⟨w.heap.size + 1, 0, none⟩ = some (.int .u8 0) := (by (try go_simp); (repeat (simp only [↓IntWalk.iteOmega]; (try go_simp))); (try omega))
      have y9 : W.cell? ⟨w.heap.size + 1 + 1, 0, none⟩ = some (.int .i64 0) := (by (try go_simp); (repeat (simp only [↓IntWalk.iteOmega]; (try go_simp))); (try omega))
      have s8 := cell_set y8 (.int .u8 2)
      have s9 := cell_set (cell_set_ne y9 (show w.heap.size + 1 ≠ w.heap.size + 1 + 1 by omega) (.int .u8 2)) (.int .i64 0)
      have hB : Below w.heap.size w ((W.setCell ⟨w.heap.size + 1, 0, none⟩ (.int .u8 2)).setCell ⟨w.heap.size + 1 + 1, 0, none⟩ (.int .i64 0)) := by (repeat (first | exact Below.refl _ _ | (with_reducible exact Hid.out (by assumption)) | refine below_al ?_ _ | refine below_dr ?_ | refine below_tr ?_ (by assumption) | refine below_tr ?_ (Bel.out (by assumption)) | refine below_tr ?_ (Bel.out (ov_bel _ _)) | refine below_set ?_ (by simp; try omega)))
      exact retM (.tuple #[.int .u8 2, .int .i64 0]) (by simp [results, Try.results93, go_sem, s8, s9]) ⟨2, 0, rfl, by rw [HN.out]; rfl, .of_below HW0.out.map.maps hB, (HW0.out.below hB).map⟩
    · (refine (callsIn_wide (n := 9)).1 ?_; refine callsIn_of_wp_marks Try.func93 rfl trivial (wpIn_wide.2 ?_) rfl; simp only [Try.ntmps93, List.size_toArray, List.length_cons, List.length_nil, Nat.reduceAdd, Nat.reduceSub, Array.replicate_succ, Array.replicate_zero, List.push_toArray, List.append_toArray, List.nil_append, List.cons_append])
      go_wp2
      (refine wp_region_ov (by kernel_rfl) (by kernel_rfl) (fun R hR => ?_); (repeat (go_big_quiet_step ((go_at_call 102; exact calls_ov (HM.out _ (by (repeat (first | exact Below.refl _ _ | (with_reducible exact Hid.out (by assumption)) | refine below_al ?_ _ | refine below_dr ?_ | refine below_tr ?_ (by assumption) | refine below_tr ?_ (Bel.out (by assumption)) | refine below_tr ?_ (Bel.out (ov_bel _ _)) | refine below_set ?_ (by simp; try omega))))))))); refine wpQuiet_nil ?_; refine hR.out _ ?_; clear hR R; intro W hW; have hc := hW.cells; have hf := hW.frozens; have hz := hW.size; (try simp at hz))
      go_wp2_with fail
      refine (HR.out _ (by (repeat (first | exact Below.refl _ _ | (with_reducible exact Hid.out (by assumption)) | refine below_al ?_ _ | refine below_dr ?_ | refine below_tr ?_ (by assumption) | refine below_tr ?_ (Bel.out (by assumption)) | refine below_tr ?_ (Bel.out (ov_bel _ _)) | refine below_set ?_ (by simp; try omega))))).mono ?_
      rintro e w1 ⟨v, rfl, ⟨A, c', ys, rfl, hrow, hl9, hne⟩, hkm0, hinv⟩
      have y8 : w1.cell? ⟨w.heap.size + 1, 0, none⟩ = some (.int .u8 0) := hkm0.kept _ _ (by (try go_simp); (repeat (simp only [↓IntWalk.iteOmega]; (try go_simp))); (try omega))
      have y9 : w1.cell? ⟨w.heap.size + 1 + 1, 0, none⟩ = some (.int .i64 0) := hkm0.kept _ _ (by (try go_simp); (repeat (simp only [↓IntWalk.iteOmega]; (try go_simp))); (try omega))
      have y5 : w1.cell? ⟨w.heap.size, 0, none⟩ = some (.int .i64 i) := hkm0.kept _ _ (by (try go_simp); (repeat (simp only [↓IntWalk.iteOmega]; (try go_simp))); (try omega))
      have y5' : w1.cell? ⟨w.heap.size, 1, none⟩ = some (.int .i64 j) := hkm0.kept _ _ (by (try go_simp); (repeat (simp only [↓IntWalk.iteOmega]; (try go_simp))); (try omega))
      have z8 : w1.frozen? ⟨w.heap.size + 1, 0, none⟩ = false := by exact (hkm0.frozens _ _).trans ((if_pos (by omega)).trans (by (try go_simp); (repeat (simp only [↓IntWalk.iteOmega]; (try go_simp))); (try omega)))
      have z9 : w1.frozen? ⟨w.heap.size + 1 + 1, 0, none⟩ = false := by exact (hkm0.frozens _ _).trans ((if_pos (by omega)).trans (by (try go_simp); (repeat (simp only [↓IntWalk.iteOmega]; (try go_simp))); (try omega)))
      have hkm : KeepM (fun k => k = r) w w1 := (KeepM.of_below HW0.out.map.maps (by (repeat (first | exact Below.refl _ _ | (with_reducible exact Hid.out (by assumption)) | refine below_al ?_ _ | refine below_dr ?_ | refine below_tr ?_ (by assumption) | refine below_tr ?_ (Bel.out (by assumption)) | refine below_tr ?_ (Bel.out (ov_bel _ _)) | refine below_set ?_ (by simp; try omega))))).trans hkm0
      have hz1 : w.heap.size + 3 ≤ w1.heap.size := by
        have := hkm0.size
        omega
      clear hkm0 hc hf hz hW HM HR
      replace hinv := Lib.hid hinv
      replace hkm := Lib.hid hkm
      have HRow := Lib.hid hrow
      have HNe := Lib.hid hne
      clear hrow hne e0 e1 e2 e3 g0 g1 g2 p0 p3
      cases ys with
      | cons y ys =>
        have HN : Hid (frB L i j a c s xs h = false) := Lib.hid (by rw [HF.out, ← HNe.out]; simp)
        obtain ⟨b4, o4, hA4, q0⟩ := HRow.out.num (i := 0) (x := y) rfl
        subst hA4
        have q0' : (w1.setCell ⟨w.heap.size + 1, 0, none⟩ (.int .u8 3)).cell? ⟨b4, o4 + 0, none⟩ = some (.int .i64 y) := (World.cell?_setCell_other _ _ _ _ (by intro e; rw [← e] at q0; rw [q0] at y8; cases y8)).trans q0
        simp only [Nat.add_zero] at q0 q0'
        clear HF HRow HNe
        go_wp2
        go_region
        go_wp2
        have s8 := cell_set y8 (.int .u8 3)
        have s9 := cell_set (cell_set_ne y9 (show w.heap.size + 1 ≠ w.heap.size + 1 + 1 by omega) (.int .u8 3)) (.int .i64 y)
        have hB : Below w.heap.size w1 (((w1.setCell ⟨w.heap.size + 1, 0, none⟩ (.int .u8 3)).setCell ⟨w.heap.size + 1 + 1, 0, none⟩ (.int .i64 y)).drew) := (((Below.refl _ w1).setCell (by simp) _).setCell (by simp; omega) _).drew
        have hKI : KeptI w1 (((w1.setCell ⟨w.heap.size + 1, 0, none⟩ (.int .u8 3)).setCell ⟨w.heap.size + 1 + 1, 0, none⟩ (.int .i64 y)).drew) := ((KeptI.set (.inr fun n hn => by rw [hn] at y8; cases y8)).trans (KeptI.set (.inl ⟨_, rfl⟩))).trans (KeptI.of (kept_of_below (Below.refl _ _).drew))
        exact retM (.tuple #[.int .u8 3, .int .i64 y]) (by simp [results, Try.results93, go_sem, s8, s9]) ⟨3, y, rfl, by rw [HN.out]; rfl, hkm.out.trB hB, hinv.out.mono (hB.block r hlr) (fun _ _ _ q => q.keptI hKI)⟩
      | nil =>
        have hnr : ridB L i j = false := by rw [← HNe.out]; rfl
        have HF2 : Hid (frB L i j a c s xs h = !xs.any (clB a c h)) := Lib.hid (by rw [HF.out, hnr, show decide (0 < s.u) = true by simpa using hu, show decide (mirI a c s ≤ a.m) = true by simpa using hm]; simp)
        clear HRow HNe HF hnr
        go_wp2
        obtain ⟨W1, hW1⟩ : ∃ W1, W1 = (((w1.alloc (.cells #[.pointer (some ⟨p, 0, none⟩)] 136)).alloc (.cells #[.int .i64 i, .int .i64 j] 141)).alloc (.cells #[.int .i64 k] 3)).alloc (.cells #[.int .i64 h] 3) := ⟨_, rfl⟩
        rw [← hW1]
        have hB1 : Below w1.heap.size w1 W1 := by rw [hW1]; (repeat (first | exact Below.refl _ _ | (with_reducible exact Hid.out (by assumption)) | refine below_al ?_ _ | refine below_dr ?_ | refine below_tr ?_ (by assumption) | refine below_tr ?_ (Bel.out (by assumption)) | refine below_tr ?_ (Bel.out (ov_bel _ _)) | refine below_set ?_ (by simp; try omega)))
        have hbox : ClBox W1 w1.heap.size (w1.heap.size + 1) (w1.heap.size + 1 + 1) (w1.heap.size + 1 + 1 + 1) p i j k h := by rw [hW1]; exact ⟨(by (try go_simp); (repeat (simp only [↓IntWalk.iteOmega]; (try go_simp))); (try omega)), (by (try go_simp); (repeat (simp only [↓IntWalk.iteOmega]; (try go_simp))); (try omega)), (by (try go_simp); (repeat (simp only [↓IntWalk.iteOmega]; (try go_simp))); (try omega)), (by (try go_simp); (repeat (simp only [↓IntWalk.iteOmega]; (try go_simp))); (try omega)), (by (try go_simp); (repeat (simp only [↓IntWalk.iteOmega]; (try go_simp))); (try omega))⟩
        have hHW1 : HW W1 p r ⟨some ⟨b, o, none⟩, c0, a1, c1, a2, c2, some ⟨b2, o2, none⟩, c3⟩ L := (HW0.out.keep hkm.out hinv.out).below hB1
        have x8 := kept_of_below hB1 _ _ y8
        have x9 := kept_of_below hB1 _ _ y9
        have xf8 : W1.frozen? ⟨w.heap.size + 1, 0, none⟩ = false := ((bcell hB1).2 _ _).trans ((if_pos (by omega)).trans z8)
        have xf9 : W1.frozen? ⟨w.heap.size + 1 + 1, 0, none⟩ = false := ((bcell hB1).2 _ _).trans ((if_pos (by omega)).trans z9)
        have hs1' := hB1.size
        have HB1 := Lib.hid hB1
        have HBox := Lib.hid hbox
        have HH := Lib.hid hHW1
        clear hW1 hB1 hbox hHW1
        refine (wpIn_wide (n := 9)).1 ?_
        refine wpIn_rangeFunc_B rfl (by omega) (gf := 107) (lb := #[.pointer (some ⟨w1.heap.size, 0, none⟩), .pointer (some ⟨w1.heap.size + 1 + 1, 0, none⟩), .pointer (some ⟨w1.heap.size + 1 + 1 + 1, 0, none⟩), .pointer (some ⟨w1.heap.size + 1, 0, none⟩)]) rfl trivial (enters_of Try.func107 (by kernel_rfl) rfl)
          (clouds_stops p r w1.heap.size (w1.heap.size + 1) (w1.heap.size + 1 + 1) (w1.heap.size + 1 + 1 + 1) ⟨some ⟨b, o, none⟩, c0, a1, c1, a2, c2, some ⟨b2, o2, none⟩, c3⟩ L i j k h a c xs W1 HH.out OK.out HI.out HJ.out HK.out HBox.out 8) belowK_t (belowK_b (Nat.le_refl _)) (Below.refl _) (Below.refl _ _) (fun _ => rfl)
          (fun pre W => pre = [] ∧ Kept W1 W ∧ Below W1.heap.size W1 W) (fun cd _ W => cd = .ret ∧ KeptI W1 W ∧ Below w.heap.size W1 W ∧ W.cell? ⟨w.heap.size + 1, 0, none⟩ = some (.int .u8 4) ∧ ∃ x, W.cell? ⟨w.heap.size + 1 + 1, 0, none⟩ = some (.int .i64 x))
          (fun s X Y row hs hg hr => ⟨hs.1, hs.2.1.trans (kept_grown hg (fun r e => (hr r e).2)), hs.2.2.grown hg hs.2.2.size (fun k e => (hr k e).1)⟩)
          (fun cd s X Y row hs hg hr => ⟨hs.1, hs.2.1.trans (KeptI.of (kept_grown hg (fun r e => (hr r e).2))), hs.2.2.1.grown hg (by have := hs.2.2.1.size; omega) (fun k e => by have := (hr k e).1; omega), cell_kept hs.2.2.2.1 hg (fun r e => (hr r e).2), hs.2.2.2.2.imp fun x hx => cell_kept hx hg (fun r e => (hr r e).2)⟩)
          ⟨rfl, Kept.refl _, Below.refl _ _⟩ ?round ?done ?stop
        case round =>
          intro l x W K hK
          gi_wp2
          rintro l pre W hl hr ⟨rfl, hk, hB⟩ hlen
          have v8 := hk _ _ x8
          have v9 := hk _ _ x9
          have vf8 : W.frozen? ⟨w.heap.size + 1, 0, none⟩ = false := ((bcell hB).2 _ _).trans ((if_pos (by omega)).trans xf8)
          have vf9 : W.frozen? ⟨w.heap.size + 1 + 1, 0, none⟩ = false := ((bcell hB).2 _ _).trans ((if_pos (by omega)).trans xf9)
          have t9 := cell_set_ne v9 (show w.heap.size + 1 ≠ w.heap.size + 1 + 1 by omega) (.int .u8 4)
          have hkI : KeptI W1 ((W.setCell ⟨w.heap.size + 1, 0, none⟩ (.int .u8 4)).setCell ⟨w.heap.size + 1 + 1, 0, none⟩ (.int .i64 x)) := ((KeptI.of hk).trans (KeptI.set (.inr fun n hn => by rw [hn] at v8; cases v8))).trans (KeptI.set (.inl ⟨_, rfl⟩))
          have hB' : Below w.heap.size W1 ((W.setCell ⟨w.heap.size + 1, 0, none⟩ (.int .u8 4)).setCell ⟨w.heap.size + 1 + 1, 0, none⟩ (.int .i64 x)) := ((hB.mono (by omega)).setCell (by simp) _).setCell (by simp; omega) _
          have u8 := cell_set_ne (cell_set v8 (.int .u8 4)) (show w.heap.size + 1 + 1 ≠ w.heap.size + 1 by omega) (.int .i64 x)
          have u9 := cell_set t9 (.int .i64 x)
          replace hkI := Lib.hid hkI
          replace hB' := Lib.hid hB'
          replace u8 := Lib.hid u8
          replace u9 := Lib.hid u9
          clear hk hB hr
          gi_wp2
          exact ⟨((KeepsOthers.setCell _ _ _).trans (KeepsOthers.setCell _ _ _)).from _, rfl, hkI.out, hB'.out, u8.out, x, u9.out⟩
        case done =>
          rintro D ys W hD hS ⟨rfl, hk, hB⟩ hK
          have v8 := hk _ _ x8
          have v9 := hk _ _ x9
          have vf8 : W.frozen? ⟨w.heap.size + 1, 0, none⟩ = false := ((bcell hB).2 _ _).trans ((if_pos (by omega)).trans xf8)
          have vf9 : W.frozen? ⟨w.heap.size + 1 + 1, 0, none⟩ = false := ((bcell hB).2 _ _).trans ((if_pos (by omega)).trans xf9)
          have t9 := cell_set_ne v9 (show w.heap.size + 1 ≠ w.heap.size + 1 + 1 by omega) (.int .u8 0)
          have hkI : KeptI W1 ((W.setCell ⟨w.heap.size + 1, 0, none⟩ (.int .u8 0)).setCell ⟨w.heap.size + 1 + 1, 0, none⟩ (.int .i64 0)) := ((KeptI.of hk).trans (KeptI.set (.inr fun n hn => by rw [hn] at v8; cases v8))).trans (KeptI.set (.inl ⟨_, rfl⟩))
          have hB' : Below w.heap.size W1 ((W.setCell ⟨w.heap.size + 1, 0, none⟩ (.int .u8 0)).setCell ⟨w.heap.size + 1 + 1, 0, none⟩ (.int .i64 0)) := ((hB.mono (by omega)).setCell (by simp) _).setCell (by simp; omega) _
          have u8 := cell_set_ne (cell_set v8 (.int .u8 0)) (show w.heap.size + 1 + 1 ≠ w.heap.size + 1 by omega) (.int .i64 0)
          have u9 := cell_set t9 (.int .i64 0)
          have hK' := ((KeepsOthers.setCell W ⟨w.heap.size + 1, 0, none⟩ (.int .u8 0)).trans (KeepsOthers.setCell _ ⟨w.heap.size + 1 + 1, 0, none⟩ (.int .i64 0))).same D _ hK rfl
          replace hkI := Lib.hid (hkI.trans (KeptI.of (kept_collected hK' (.deferred none))))
          replace hB' := Lib.hid (below_put hB' (show w.heap.size ≤ D by omega) hK' (.deferred none))
          have HN : Hid (frB L i j a c s xs h = true) := Lib.hid (by rw [HF2.out, ← hS]; rfl)
          replace hK' := Lib.hid hK'
          replace u8 := Lib.hid u8
          replace u9 := Lib.hid u9
          clear hk hB hK hS HF2
          gi_wp2
          go_wp2
          have r8 := kept_collected hK'.out (.deferred none) _ _ u8.out
          have r9 := kept_collected hK'.out (.deferred none) _ _ u9.out
          exact retMk hK'.out (.tuple #[.int .u8 0, .int .i64 0]) (by simp [results, Try.results93, go_sem, r8, r9])
            ⟨0, 0, rfl, by rw [HN.out]; rfl, hkm.out.trB ((HB1.out.mono (by omega)).trans hB'.out), hinv.out.mono (((HB1.out.mono (show w.heap.size ≤ w1.heap.size by omega)).trans hB'.out).block r hlr) (fun _ _ _ q => (q.kept (kept_of_below HB1.out)).keptI hkI.out)⟩
        case stop =>
          rintro D cd pre W hD hS ⟨rfl, hk, hB, q8, x, q9⟩ hK
          have HN : Hid (frB L i j a c s xs h = false) := Lib.hid (by rw [HF2.out, hS]; rfl)
          gi_wp2
          have r8 := kept_collected hK (.deferred none) _ _ q8
          have r9 := kept_collected hK (.deferred none) _ _ q9
          exact retMk hK (.tuple #[.int .u8 4, .int .i64 x]) (by simp [results, Try.results93, go_sem, r8, r9])
            ⟨4, x, rfl, by rw [HN.out]; rfl, hkm.out.trB ((HB1.out.mono (by omega)).trans (below_put hB (show w.heap.size ≤ D by omega) hK _)), hinv.out.mono (((HB1.out.mono (show w.heap.size ≤ w1.heap.size by omega)).trans (below_put hB (show w.heap.size ≤ D by omega) hK _)).block r hlr) (fun _ _ _ q => (q.kept (kept_of_below HB1.out)).keptI (hk.trans (KeptI.of (kept_collected hK _))))⟩
end Go.Proofs.Ytdfohielnfdmkaa

/- Own rows of ints: an append leaves an int wherever one was. -/
set_option linter.unusedVariables false
namespace Go.Proofs.Ytdfohielnfdmkaa
open Go.RowKit

theorem keptI_alloc (w : World) (o : Obj) : KeptI w (w.drew.alloc o) := KeptI.of (kept_of_below (below_al (below_dr (Below.refl _ w)) o))
theorem keptI_setRow {w : World} {g : Nat} {cur : Array Value} {t : TypeId} {fr : Nat × Nat} (hg : w.heap[g]? = some (.cells cur t fr)) (cs : Array Value)
    (h : ∀ (j : Nat) (n : Int), cur[j]? = some (.int .i64 n) → ∃ m, cs[j]? = some (.int .i64 m)) : KeptI w (w.setRow g cs) := by
  intro a n hv
  by_cases e : a.block = g
  · obtain ⟨b, o, p⟩ := a
    simp only at e
    subst e
    cases p with
    | some s => simp [World.cell?, hg] at hv
    | none =>
      rw [cell_setRow_same w b o cur cs t fr hg]
      exact h o n (by rw [cell_of_row w b o cur t fr hg] at hv; exact hv)
  · exact ⟨n, (World.cell?_of_block (setRow_other w g _ _ e)).trans hv⟩
theorem mid_int (cur : List Value) (k : Nat) (news : List Value) (hk : k + news.length ≤ cur.length) (hn : ∀ u, u ∈ news → ∃ n : Int, u = .int .i64 n) (j : Nat) (n : Int) (hj : cur[j]? = some (.int .i64 n)) :
    ∃ m : Int, (cur.take k ++ news ++ cur.drop (k + news.length))[j]? = some (.int .i64 m) := by
  rcases Nat.lt_or_ge j k with h | h
  · exact ⟨n, by rw [List.append_assoc, List.getElem?_append_left (by rw [List.length_take]; omega), List.getElem?_take, if_pos h]; exact hj⟩
  · rcases Nat.lt_or_ge j (k + news.length) with h2 | h2
    · obtain ⟨m, hm⟩ := hn news[j - k] (List.getElem_mem _)
      exact ⟨m, by rw [List.getElem?_append_left (by rw [List.length_append, List.length_take]; omega), List.getElem?_append_right (by rw [List.length_take]; omega), List.length_take, Nat.min_eq_left (by omega), List.getElem?_eq_getElem (by omega), hm]⟩
    · refine ⟨n, ?_⟩
      rw [List.getElem?_append_right (by rw [List.length_append, List.length_take]; omega), List.getElem?_drop, List.length_append, List.length_take, Nat.min_eq_left (by omega), show k + news.length + (j - (k + news.length)) = j by omega]
      exact hj
section
variable {P : Program} (w : World)
theorem append_keptI (base : Nat) (t ty e : TypeId) (i : TypeInfo) (z : Value) (size bytes : Nat) (ht : P.underlying t = some (.slice e)) (hi : P.info? e = some i) (hz : i.zero = some z)
    (hsize : i.size = size) (hby : i.bytes = bytes) (hsz : 0 < size)
    (v : Value) (n : Nat) (xs : List Value) (hown : w.ownsRow base e size v n xs)
    (a : Addr) (m c : Nat) (news : List Value) (hl : news.length = m * size) (hnews : ∀ j u, news[j]? = some u → w.cell? (a.add j) = some u) (h1 : ∀ u ∈ news, u.oneCell' = true)
    (h63 : n + m ≤ maxLen) (hbytes : (n + m) * bytes ≤ 140737488355328) (hni : ∀ u, u ∈ news → ∃ n : Int, u = .int .i64 n)
    {v' : Value} {w' : World} (hr : (Builtin.append_ #[t, t] ty #[v, .slice (some a) m c]).run P w = .ok v' w') : KeptI w w' := by
  subst hsize
  subst hby
  have hsmall : n + m ≤ 9223372036854775807 := by simp only [maxLen] at h63; omega
  have hown' := hown
  obtain ⟨hlx, h2⟩ := hown
  rcases h2 with ⟨rfl, rfl⟩ | ⟨g, cap, cur, rfl, hbg, hg, hnc, hcm, hcs, htake⟩
  · by_cases hm : m = 0
    · subst hm
      have hn : news = [] := List.eq_nil_of_length_eq_zero (by simpa using hl)
      subst hn
      have : (Builtin.append_ #[t, t] ty #[.slice none 0 0, .slice (some a) 0 c]).run P w = .ok (.slice none 0 0) w := by
        simp [Builtin.append_, run_underlying ht, sizeOf, typeInfo, hi, Builtin.lenOf, Builtin.firstCells, loadCells, loadCellsFrom]
      rw [this] at hr
      cases hr
      exact KeptI.of (Kept.refl _)
    · have h := run_append_nil (P := P) w t ty e i z ht hi hz a m c news hl hnews (by omega) (by omega) (by simp only [Nat.zero_add] at hbytes; omega)
      rw [h] at hr
      cases hr
      exact keptI_alloc _ _
  · by_cases hroom : n + m ≤ cap
    · have hfit : n * i.size + news.length ≤ cur.size := by rw [hl, hcs, ← Nat.add_mul]; exact Nat.mul_le_mul_right _ hroom
      have h := run_append_room (P := P) w t ty e i ht hi g n cap cur hg a m c news hl hnews h1 hroom hfit
      rw [h] at hr
      cases hr
      refine keptI_setRow hg _ fun j k hj => ?_
      have := mid_int cur.toList (n * i.size) news (by simpa using hfit) hni j k (by simpa using hj)
      simpa using this
    · have holds : ∀ j u, xs[j]? = some u → w.cell? ((⟨g, 0, none⟩ : Addr).add j) = some u := hown'.cells (g := g) rfl
      have h := run_append_grow (P := P) w t ty e i z ht hi hz ⟨g, 0, none⟩ n cap xs hlx holds a m c news hl hnews (by omega) (by omega) (growslice_fits (by omega) hbytes)
      rw [h] at hr
      cases hr
      exact keptI_alloc _ _

theorem wpList_append_I {ops : Array Oper} {rest : List Oper} {o : Oper} {a : Act} {Q : Exit → Act → World → Prop} (hgd : o.guard = none) (s x : Operand) (t : TypeId)
    (ho : o.op = .call { callee := .builtin .append, args := #[s, x], argTypes := #[t, t] })
    (base : Nat) (e : TypeId) (i : TypeInfo) (z : Value) (size bytes : Nat) (ht : P.underlying t = some (.slice e)) (hi : P.info? e = some i) (hz : i.zero = some z)
    (hsize : i.size = size) (hby : i.bytes = bytes) (hzs : z.cells.size = size) (hsz : 0 < size)
    (v : Value) (n : Nat) (xs : List Value) (hs : a.eval s = v) (hown : w.ownsRow base e size v n xs)
    (ad : Addr) (m c : Nat) (news : List Value) (hx : a.eval x = .slice (some ad) m c) (hl : news.length = m * size) (hnews : ∀ j u, news[j]? = some u → w.cell? (ad.add j) = some u) (h1 : ∀ u ∈ news, u.oneCell' = true)
    (h63 : n + m ≤ maxLen) (hbytes : (n + m) * bytes ≤ 140737488355328) (hbase : base ≤ w.heap.size) (hni : ∀ u, u ∈ news → ∃ n : Int, u = .int .i64 n)
    (h : ∀ v' w', w'.ownsRow base e size v' (n + m) (xs ++ news) → w.grownBy w' v.ownBlock → KeptI w w' → wpList P ops Q rest (a.put o.dst v') w') : wpList P ops Q (o :: rest) a w :=
  wpList_plain hgd fun _ hK => by
    obtain ⟨v', w', hr, h2, h3, _⟩ := run_append_own (P := P) w base t o.type e i z size bytes ht hi hz hsize hby hzs hsz v n xs hown ad m c news hl hnews h1 h63 hbytes hbase
    have hk := append_keptI (P := P) w base t o.type e i z size bytes ht hi hz hsize hby hsz v n xs hown ad m c news hl hnews h1 h63 hbytes hni hr
    unfold Oper.wp execOp
    simp only [ho, resolve, invoke, builtin, Sem.run_bind, Sem.run_pure, Result.andThen_ok, List.map_toArray, List.map_cons, List.map_nil, hs, hx, hr]
    exact hK _ _ (h v' w' h2 h3 hk)
end
end Go.Proofs.Ytdfohielnfdmkaa

/- Walks: to which stations a station can flash (package hill). -/
set_option linter.unusedVariables false
set_option linter.unusedSimpArgs false
namespace Go.Proofs.Ytdfohielnfdmkaa
open Go.RowKit
attribute [local go_sem low] cell_alloc_ite frozen_alloc_ite ov_cell ov_frozen

/-- Whether a station can flash to another one in a case at an hour. -/
def canN (L : Lnd) (i j k h : Nat) : Bool :=
  match L.st[i]?, L.st[j]?, L.ca[k]?, L.su[h]? with
  | some a, some c, some xs, some s => ((i : Int) != j) && frB L i j a c s xs h
  | _, _, _, _ => false
theorem canN_eq {L : Lnd} {i j k h : Nat} {a c : Sta} {xs : List Clo} {s : Sun} (hi : L.st[i]? = some a) (hj : L.st[j]? = some c) (hk : L.ca[k]? = some xs) (hs : L.su[h]? = some s) :
    canN L i j k h = (((i : Int) != j) && frB L i j a c s xs h) := by simp [canN, hi, hj, hk, hs]
def CanMade (r : Nat) (L : Lnd) (b : Bool) (w : World) (e : Ending) (w' : World) : Prop := e = .returned (.bool b) ∧ KeepM (fun k => k = r) w w' ∧ MapInv w' r (RidPhi w' L)

set_option maxHeartbeats 1000000 in
theorem can_any (p r : Nat) (V : LV) (L : Lnd) (i j k h : Nat) (w : World) (hw : HW w p r V L) (ok : Okay L) (li : i < L.st.length) (lj : j < L.st.length) (lk : k < L.ca.length) (lh : h < L.su.length) :
    Calls Try.prog 72 #[.pointer (some ⟨p, 0, none⟩), .agg #[.int .i64 i, .int .i64 j], .int .i64 k, .int .i64 h] w (CanMade r L (canN L i j k h) w) := by
  have hi := List.getElem?_eq_getElem li
  have hj := List.getElem?_eq_getElem lj
  have hk := List.getElem?_eq_getElem lk
  have hs := List.getElem?_eq_getElem lh
  have HN := Lib.hid (canN_eq hi hj hk hs)
  have HY := Lib.hid (fun W (hW : Below w.heap.size w W) => why_any p r V L i j k h _ _ _ _ W (hw.below hW) ok hi hj hk hs)
  have HW0 := Lib.hid hw
  have hs1 := ok.s1
  generalize frB L i j L.st[i] L.st[j] L.su[h] L.ca[k] h = fr at *
  clear hi hj hk hs hw ok
  rcases Bool.eq_false_or_eq_true (((i : Int) != j)) with hb0 | hb0
  · replace hb0 := hb0
    go_enter Try.func72, Try.ntmps72
    go_wp2_with fail
    refine (HY.out _ (by (repeat (first | exact Below.refl _ _ | (with_reducible exact Hid.out (by assumption)) | refine below_al ?_ _ | refine below_dr ?_ | refine below_tr ?_ (by assumption) | refine below_tr ?_ (Bel.out (by assumption)) | refine below_tr ?_ (Bel.out (ov_bel _ _)) | refine below_set ?_ (by simp; try omega))))).mono ?_
    rintro e w1 ⟨n, x, rfl, hn, hkm0, hinv⟩
    have y0 : w1.cell? ⟨w.heap.size, 0, none⟩ = some (.int .i64 i) := hkm0.kept _ _ (by (try go_simp); (repeat (simp only [↓IntWalk.iteOmega]; (try go_simp))); (try omega))
    have y1 : w1.cell? ⟨w.heap.size, 1, none⟩ = some (.int .i64 j) := hkm0.kept _ _ (by (try go_simp); (repeat (simp only [↓IntWalk.iteOmega]; (try go_simp))); (try omega))
    have hkm : KeepM (fun k => k = r) w w1 := (KeepM.of_below HW0.out.map.maps (by (repeat (first | exact Below.refl _ _ | (with_reducible exact Hid.out (by assumption)) | refine below_al ?_ _ | refine below_dr ?_ | refine below_tr ?_ (by assumption) | refine below_tr ?_ (Bel.out (by assumption)) | refine below_tr ?_ (Bel.out (ov_bel _ _)) | refine below_set ?_ (by simp; try omega))))).trans hkm0
    clear hkm0
    replace hkm := Lib.hid hkm
    replace hinv := Lib.hid hinv
    replace hn := Lib.hid hn
    go_wp2
    go_ret
    exact ⟨by rw [HN.out, hb0]; simp [← hn.out], hkm.out, hinv.out⟩
  · replace hb0 := hb0
    go_enter Try.func72, Try.ntmps72
    go_wp2_with fail
    refine (HY.out _ (by (repeat (first | exact Below.refl _ _ | (with_reducible exact Hid.out (by assumption)) | refine below_al ?_ _ | refine below_dr ?_ | refine below_tr ?_ (by assumption) | refine below_tr ?_ (Bel.out (by assumption)) | refine below_tr ?_ (Bel.out (ov_bel _ _)) | refine below_set ?_ (by simp; try omega))))).mono ?_
    rintro e w1 ⟨n, x, rfl, hn, hkm0, hinv⟩
    have y0 : w1.cell? ⟨w.heap.size, 0, none⟩ = some (.int .i64 i) := hkm0.kept _ _ (by (try go_simp); (repeat (simp only [↓IntWalk.iteOmega]; (try go_simp))); (try omega))
    have y1 : w1.cell? ⟨w.heap.size, 1, none⟩ = some (.int .i64 j) := hkm0.kept _ _ (by (try go_simp); (repeat (simp only [↓IntWalk.iteOmega]; (try go_simp))); (try omega))
    have hkm : KeepM (fun k => k = r) w w1 := (KeepM.of_below HW0.out.map.maps (by (repeat (first | exact Below.refl _ _ | (with_reducible exact Hid.out (by assumption)) | refine below_al ?_ _ | refine below_dr ?_ | refine below_tr ?_ (by assumption) | refine below_tr ?_ (Bel.out (by assumption)) | refine below_tr ?_ (Bel.out (ov_bel _ _)) | refine below_set ?_ (by simp; try omega))))).trans hkm0
    clear hkm0
    replace hkm := Lib.hid hkm
    replace hinv := Lib.hid hinv
    replace hn := Lib.hid hn
    go_wp2
    go_ret
    exact ⟨by rw [HN.out, hb0]; simp [← hn.out], hkm.out, hinv.out⟩

/-- The stations before m to which a station can flash. -/
def rcTo (L : Lnd) (i k h : Nat) (m : Nat) : List Int := ((List.range m).filter fun j => canN L i j k h).map fun j : Nat => (j : Int)
theorem rcTo_succ (L : Lnd) (i k h m : Nat) : rcTo L i k h (m + 1) = rcTo L i k h m ++ if canN L i m k h then [(m : Int)] else [] := by
  unfold rcTo
  rw [List.range_succ, List.filter_append, List.map_append]
  congr 1
  by_cases hc : canN L i m k h = true <;> simp [hc]
theorem rcTo_len (L : Lnd) (i k h m : Nat) : (rcTo L i k h m).length ≤ m := by
  unfold rcTo
  rw [List.length_map]
  exact Nat.le_trans (List.length_filter_le _ _) (by simp)

/-- What 'Reach' gives. -/
def ReachMade (L : Lnd) (i k h : Nat) (w : World) (e : Ending) (w' : World) : Prop :=
  ∃ A c, e = .returned (.tuple #[.slice A (rcTo L i k h L.st.length).length c, .int .i64 0]) ∧ RowAt w' A 1 encInt (rcTo L i k h L.st.length) ∧ (rcTo L i k h L.st.length).length ≤ c ∧ Below w.heap.size w w'
def RcRel (w : World) (L : Lnd) (i k h r : Nat) (m v : Value) (wr : World) : Prop :=
  ∃ j : Nat, j ≤ L.st.length ∧ m = .int .i64 j ∧ wr.ownsRow w.heap.size 3 1 v (rcTo L i k h j).length ((rcTo L i k h j).map (Value.int .i64)) ∧ KeepM (fun k => k = r) w wr ∧ MapInv wr r (RidPhi wr L)

set_option maxRecDepth 100000 in
set_option maxHeartbeats 4000000 in
theorem reach_any (V : LV) (L : Lnd) (i k h : Nat) (w : World) (hr : RdL w V L) (ok : Okay L) (li : i < L.st.length) (lk : k < L.ca.length) (lh : h < L.su.length) :
    Calls Try.prog 53 #[vLnd V L, .int .i64 i, .int .i64 k, .int .i64 h] w (ReachMade L i k h w) := by
  have HR := Lib.hid hr
  have OK := Lib.hid ok
  have hs1 := ok.s1
  have hA : askedI L i i k h = 6 := by
    unfold askedI
    rw [show inR i 0 ((L.st.length : Int) - 1) = true from inR_true.2 (by omega), show inR k 0 ((L.ca.length : Int) - 1) = true from inR_true.2 (by omega), show inR h 0 ((L.su.length : Int) - 1) = true from inR_true.2 (by omega)]
    simp
  have HA := Lib.hid hA
  have HWk := Lib.hid (fun W (hW : Below w.heap.size w W) => work_any V L W (hr.below hW) ok.fault)
  obtain ⟨a0, c0, a1, c1, a2, c2, a3, c3⟩ := V
  have HAs := Lib.hid (fun W => asked_any ⟨a0, c0, a1, c1, a2, c2, a3, c3⟩ L i i k h W hr.l0 hr.l2 hr.l3)
  clear hr ok hA
  simp only [vLnd] at *
  obtain ⟨i0, hi0, hz0, hz1, hz2⟩ := info_parts info_int
  go_enter Try.func53, Try.ntmps53
  go_wp2_with fail
  refine (HWk.out _ (by (repeat (first | exact Below.refl _ _ | (with_reducible exact Hid.out (by assumption)) | refine below_al ?_ _ | refine below_dr ?_ | refine below_tr ?_ (by assumption) | refine below_tr ?_ (Bel.out (by assumption)) | refine below_tr ?_ (Bel.out (ov_bel _ _)) | refine below_set ?_ (by simp; try omega))))).mono ?_
  rintro e w1 ⟨p, r, rfl, hb, hp, hrr, hcp, hmr⟩
  obtain ⟨hc, hf⟩ := bcell hb
  have hz := hb.size
  try simp at hz
  try simp at hp
  try simp at hrr
  have hHW : HW w1 p r ⟨a0, c0, a1, c1, a2, c2, a3, c3⟩ L := ⟨hcp, ⟨_, _, hmr, fun e he => by simp at he⟩, HR.out.below (by (repeat (first | exact Below.refl _ _ | (with_reducible exact Hid.out (by assumption)) | refine below_al ?_ _ | refine below_dr ?_ | refine below_tr ?_ (by assumption) | refine below_tr ?_ (Bel.out (by assumption)) | refine below_tr ?_ (Bel.out (ov_bel _ _)) | refine below_set ?_ (by simp; try omega))))⟩
  replace hHW := Lib.hid hHW
  clear hcp hmr HWk
  go_wp2_with fail
  refine (HAs.out _).mono ?_
  rw [HA.out]
  rintro e w2 ⟨rfl, hb2⟩
  have hcA := (bcell hb2).1
  have hfA := (bcell hb2).2
  have hzb := hb2.size
  have x0 : w2.cell? ⟨w.heap.size, 0, none⟩ = some (.slice a0 L.st.length c0) := (by (try go_simp); (repeat (simp only [↓IntWalk.iteOmega]; (try go_simp))); (try omega))
  have hBw : Below w.heap.size w w2 := by (repeat (first | exact Below.refl _ _ | (with_reducible exact Hid.out (by assumption)) | refine below_al ?_ _ | refine below_dr ?_ | refine below_tr ?_ (by assumption) | refine below_tr ?_ (Bel.out (by assumption)) | refine below_tr ?_ (Bel.out (ov_bel _ _)) | refine below_set ?_ (by simp; try omega)))
  have hHW2 : HW w2 p r ⟨a0, c0, a1, c1, a2, c2, a3, c3⟩ L := hHW.out.below hb2
  have HC := Lib.hid (fun (W : World) (hk : KeepM (fun k => k = r) w2 W) (hm : MapInv W r (RidPhi W L)) (j : Nat) (hj : j < L.st.length) => can_any p r ⟨a0, c0, a1, c1, a2, c2, a3, c3⟩ L i j k h W (hHW2.keep hk hm) OK.out li hj lk lh)
  have hM2 := hHW2.map.maps
  have hI2 := hHW2.map
  clear hHW hHW2 HR HA HAs hc hf hb hz hcA hfA hb2 hzb
  replace hBw := Lib.hid hBw
  replace hM2 := Lib.hid hM2
  replace hI2 := Lib.hid hI2
  go_wp2
  go_loopw [36, 13] (fun m v wr => RcRel w2 L i k h r m v wr) (fun m _ _ => L.st.length - (intOf m).toNat)
  case atStart => exact ⟨0, Nat.zero_le _, rfl, World.ownsRow_nil _ _ _ _, .refl hM2.out, hI2.out⟩
  case round =>
    clear x0
    obtain ⟨j, hj, rfl, hown, hkm, hinv⟩ := hrel
    by_cases hlt : j < L.st.length
    · cases hcan : canN L i j k h with
      | true =>
        replace hcan := Lib.hid hcan
        have hsz := hkm.size
        replace hown := Lib.hid hown
        replace hkm := Lib.hid hkm
        replace hinv := Lib.hid hinv
        go_wp2_with fail
        refine (HC.out _ hkm.out hinv.out j hlt).mono ?_
        rw [hcan.out]
        rintro e w3 ⟨rfl, hkm3, hinv3⟩
        have hown3 := owns_keep hown.out hkm3
        have hlo := hown3.lt
        have hkm23 := Lib.hid (hkm.out.trans hkm3)
        have hz3 := hkm23.out.size
        replace hinv3 := Lib.hid hinv3
        replace hlo := Lib.hid hlo
        clear hkm hinv hown hkm3
        go_wp2_with (at_builtin; refine wpList_append_I _ rfl _ _ 46 rfl w2.heap.size 3 i0 (.int .i64 0) 1 8 Try.underlying46 hi0 hz0 hz1 hz2 rfl (by decide) _ _ _ rfl (hown3.alloc _) ⟨w3.heap.size, 0, none⟩ 1 1 [.int .i64 j] rfl rfl ?c1 ?c2 ?c3 ?c4 ?c5 ?c6 ?_)
        case c1 => exact cell_one_new _ _ _
        case c2 => simp [Value.oneCell']
        case c3 => have := rcTo_len L i k h j; unfold maxLen; omega
        case c4 => have := rcTo_len L i k h j; omega
        case c5 => simp; omega
        case c6 => intro u hu; simp at hu; exact ⟨_, hu⟩
        intro v' w4 hown4 hgrow hkI
        have hB4 : Below w2.heap.size w3 w4 := Below.grown (w := w3.alloc (.cells #[.int .i64 j] 3)) ((Below.refl _ _).alloc (by omega) _) hgrow (by simp; omega) (fun k hk => (hlo.out k hk).1)
        have hinv4 : MapInv w4 r (RidPhi w4 L) := hinv3.out.mono (hB4.block r (hM2.out.lt rfl)) (fun _ _ _ q => (q.kept (kept_of_below (by (repeat (first | exact Below.refl _ _ | (with_reducible exact Hid.out (by assumption)) | refine below_al ?_ _ | refine below_dr ?_ | refine below_tr ?_ (by assumption) | refine below_tr ?_ (Bel.out (by assumption)) | refine below_tr ?_ (Bel.out (ov_bel _ _)) | refine below_set ?_ (by simp; try omega)))))).keptI hkI)
        replace hinv4 := Lib.hid hinv4
        have hkm4 := Lib.hid (hkm23.out.trB hB4)
        replace hown4 := Lib.hid hown4
        clear hgrow hown3 hlo hkI hB4 hkm23 hinv3
        go_wp2
        go_roundw
        case rel => exact ⟨j + 1, by omega, by go_num, by simp only [rcTo_succ, hcan.out, if_true, List.length_append, List.length_singleton, List.map_append, List.map_cons, List.map_nil]; exact hown4.out, hkm4.out, hinv4.out⟩
        case measure => simp [intOf]; omega
      | false =>
        replace hcan := Lib.hid hcan
        replace hown := Lib.hid hown
        replace hkm := Lib.hid hkm
        replace hinv := Lib.hid hinv
        go_wp2_with fail
        refine (HC.out _ hkm.out hinv.out j hlt).mono ?_
        rw [hcan.out]
        rintro e w3 ⟨rfl, hkm3, hinv3⟩
        replace hkm3 := Lib.hid hkm3
        replace hinv3 := Lib.hid hinv3
        go_wp2
        go_roundw
        case rel => exact ⟨j + 1, by omega, by go_num, by simp only [rcTo_succ, hcan.out, Bool.false_eq_true, if_false, List.append_nil]; exact owns_keep hown.out hkm3.out, hkm.out.trans hkm3.out, hinv3.out⟩
        case measure => simp [intOf]; omega
    · have hjm : j = L.st.length := by omega
      subst hjm
      obtain ⟨A, cc, hv, hrow, hlc, _⟩ := row_of_ints hown
      subst hv
      replace hown := Lib.hid hown
      replace hrow := Lib.hid hrow
      have hBe := Lib.hid (KeepM.below hBw.out hkm (fun i e => by subst e; omega))
      clear hkm hinv
      go_wp2
      go_ret2
      exact ⟨A, cc, rfl, hrow.out, hlc, hBe.out⟩
end Go.Proofs.Ytdfohielnfdmkaa

