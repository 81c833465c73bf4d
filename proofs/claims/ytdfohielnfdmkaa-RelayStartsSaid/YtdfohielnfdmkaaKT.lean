/- Part KT of the proof: R20 · R21 · R22. -/
import Derived.Deep.RegionHeld3
import Derived.Test.YtdfohielnfdmkaaKN
set_option linter.unusedVariables false
set_option linter.unusedSimpArgs false
/- Walks: package relay: where a route leads; where it sticks. -/
set_option linter.unusedVariables false
set_option linter.unusedSimpArgs false
namespace Go.Proofs.Ytdfohielnfdmkaa
open Go.RowKit
attribute [local go_sem low] cell_alloc_ite frozen_alloc_ite ov_cell ov_frozen cell_alloc_map frozen_alloc_map

/-- Where a list of hops leads, and when. -/
def leadsF (n E : Nat) : Int → Int → List Hp → Option (Int × Int)
  | at_, hour, [] => some (at_, hour)
  | at_, hour, h :: rest => if (decide (h.a = at_) && inR h.b 0 ((n : Int) - 1) && inR h.h hour ((E : Int) - 1)) = true then leadsF n E h.b (h.h + 1) rest else none
theorem leadsF_snoc (n E : Nat) : ∀ (l : List Hp) (x : Hp) (a h : Int), leadsF n E a h (l ++ [x]) = (leadsF n E a h l).bind fun p => if (decide (x.a = p.1) && inR x.b 0 ((n : Int) - 1) && inR x.h p.2 ((E : Int) - 1)) = true then some (x.b, x.h + 1) else none
  | [], x, a, h => rfl
  | y :: ys, x, a, h => by
    rw [List.cons_append]
    simp only [leadsF]
    by_cases hc : (decide (y.a = a) && inR y.b 0 ((n : Int) - 1) && inR y.h h ((E : Int) - 1)) = true
    · rw [if_pos hc, if_pos hc, leadsF_snoc n E ys x]
    · rw [if_neg hc, if_neg hc]; rfl
theorem leadsF_take_none {n E : Nat} {l : List Hp} {a h : Int} {j : Nat} (hj : leadsF n E a h (l.take j) = none) : leadsF n E a h l = none := by
  have key : ∀ (xs ys : List Hp) (a h : Int), leadsF n E a h xs = none → leadsF n E a h (xs ++ ys) = none := by
    intro xs
    induction xs with
    | nil => intro ys a h hx; cases hx
    | cons x xs ih =>
      intro ys a h hx
      rw [List.cons_append]
      simp only [leadsF] at hx ⊢
      split
      · rename_i hc; rw [if_pos hc] at hx; exact ih ys _ _ hx
      · rfl
  have := key (l.take j) (l.drop j) a h hj
  rwa [List.take_append_drop] at this
/-- What 'leads' gives. -/
def leadsR (o : Option (Int × Int)) : Value := match o with
  | some p => .tuple #[.int .i64 p.1, .bool true]
  | none => .tuple #[.int .i64 0, .bool false]
def LdI (w : World) (bx n E : Nat) (f s : Int) (xs : List Hp) (i : Value) (wr : World) : Prop :=
  ∃ (j : Nat) (at_ hour : Int), j ≤ xs.length ∧ i = .int .i64 j ∧ leadsF n E f s (xs.take j) = some (at_, hour) ∧ 0 ≤ hour ∧ hour ≤ 100 ∧ wr.cell? ⟨bx, 0, none⟩ = some (.int .i64 at_) ∧ wr.cell? ⟨bx, 1, none⟩ = some (.int .i64 hour) ∧ wr.frozen? ⟨bx, 0, none⟩ = false ∧ wr.frozen? ⟨bx, 1, none⟩ = false ∧ Below w.heap.size w wr

set_option maxRecDepth 100000 in
set_option maxHeartbeats 8000000 in
theorem leads_any (p : Nat) (V : LV) (L : Lnd) (f s : Int) (A : Option Addr) (c : Nat) (xs : List Hp) (w : World) (hcs : CellsAt w p (landCells V L)) (l0 : L.st.length ≤ 9) (l3 : L.su.length ≤ 15) (hx : RowAt w A 3 encHp xs) (lx : xs.length ≤ 100) (hs0 : 0 ≤ s) (hs1 : s ≤ 100) :
    Calls Try.prog 37 #[.pointer (some ⟨p, 0, none⟩), .int .i64 f, .int .i64 s, .slice A xs.length c] w fun e w' => e = .returned (leadsR (leadsF L.st.length L.su.length f s xs)) ∧ Below w.heap.size w w' := by
  have HS := Lib.hid (fun (x : Int) W (hW : Below w.heap.size w W) => station_any p V L x W (hcs.kept (kept_of_below hW)) l0)
  have HE := Lib.hid (fun W (hW : Below w.heap.size w W) => end_any p V L W (hcs.kept (kept_of_below hW)) l3)
  have HX := Lib.hid hx
  generalize hn : L.st.length = n at *
  generalize hE : L.su.length = E at *
  clear hcs hx
  go_enter Try.func37, Try.ntmps37
  go_wp2
  go_loopw [18] (fun i wr => LdI w w.heap.size n E f s xs i wr) (fun i _ => xs.length - (intOf i).toNat)
  case atStart => exact ⟨0, f, s, Nat.zero_le _, rfl, rfl, hs0, hs1, (by (try go_simp); (repeat (simp only [↓IntWalk.iteOmega]; (try go_simp))); (try omega)), (by (try go_simp); (repeat (simp only [↓IntWalk.iteOmega]; (try go_simp))); (try omega)), (by (try go_simp); (repeat (simp only [↓IntWalk.iteOmega]; (try go_simp))); (try omega)), (by (try go_simp); (repeat (simp only [↓IntWalk.iteOmega]; (try go_simp))); (try omega)), by (repeat (first | exact Below.refl _ _ | (with_reducible exact Hid.out (by assumption)) | refine below_al ?_ _ | refine below_dr ?_ | refine below_tr ?_ (by assumption) | refine below_tr ?_ (Bel.out (by assumption)) | refine below_tr ?_ (Bel.out (ov_bel _ _)) | refine below_set ?_ (by simp; try omega)))⟩
  case round =>
    obtain ⟨j, at_, hour, hj, rfl, hld, hh0, hh1, y0, y1, z0, z1, hb⟩ := hrel
    have hlw := cell_lt y0
    simp only at hlw
    by_cases hlt : j < xs.length
    · have hxj := List.getElem?_eq_getElem hlt
      obtain ⟨b, o, hA, e0, e1, e2⟩ := (HX.out.kept (kept_of_below hb)).hp hxj
      have hl := cell_lt e0
      have hct : Hid (xs.take (j + 1) = xs.take j ++ [xs[j]]) := Lib.hid (List.take_succ_eq_append_getElem hlt)
      generalize xs[j] = x at *
      simp only at hA hl
      subst hA
      obtain ⟨xa, xb, xh⟩ := x
      simp only at e0 e1 e2
      have hst : leadsF n E f s (xs.take (j + 1)) = if (decide (xa = at_) && inR xb 0 ((n : Int) - 1) && inR xh hour ((E : Int) - 1)) = true then some (xb, xh + 1) else none := by
        rw [hct.out, leadsF_snoc, hld]; rfl
      replace hst := Lib.hid hst
      replace hb := Lib.hid hb
      clear hxj hct hld
      have HS2 := Lib.hid (fun (x : Int) W (hW : Below wr.heap.size wr W) => HS.out x W (below_tr hb.out hW))
      have HE2 := Lib.hid (fun W (hW : Below wr.heap.size wr W) => HE.out W (below_tr hb.out hW))
      have hz2 : ¬ w.heap.size = wr.heap.size := by omega
      cases q0 : (xa != at_) with
      | true =>
        have q0' : ¬ xa = at_ := by simpa using q0
        replace q0' := Lib.hid q0'
        have hno : Hid (leadsF n E f s xs = none) := Lib.hid (leadsF_take_none (j := j + 1) (by rw [hst.out, if_neg (by simp [q0'.out])]))
        go_wp2
        (refine wp_region_ov (by kernel_rfl) (by kernel_rfl) (fun R hR => ?_); (repeat (go_big_quiet_step ((first | (go_at_call 45; exact calls_ov (HS2.out _ _ (below_tr (below_al (Below.refl _ _) _) (ov_bel _ _)))) | (go_at_call 31; exact calls_ov_same (HE2.out _ (below_tr (below_al (Below.refl _ _) _) (ov_bel _ _)))) | (go_at_call 41; exact calls_ov_same (rwithin_any _ _ _ _)))))); refine wpQuiet_nil ?_; refine hR.out _ ?_; clear hR R; intro W hW; have hc := hW.cells; have hf := hW.frozens; have hz := hW.size; (try simp at hz))
        have hb2 := Lib.hid (below_tr (below_tr hb.out (below_al (Below.refl _ _) _)) hW)
        clear hc hf hz hW
        go_wp2
        go_ret2
        exact ⟨by rw [hno.out]; rfl, hb2.out⟩
      | false =>
        have q0' : xa = at_ := by simpa using q0
        replace q0' := Lib.hid q0'
        cases q1 : inR xb 0 ((n : Int) - 1) with
        | false =>
          have hno : Hid (leadsF n E f s xs = none) := Lib.hid (leadsF_take_none (j := j + 1) (by rw [hst.out, if_neg (by simp [q1])]))
          go_wp2
          (refine wp_region_ov (by kernel_rfl) (by kernel_rfl) (fun R hR => ?_); (repeat (go_big_quiet_step ((first | (go_at_call 45; exact calls_ov (HS2.out _ _ (below_tr (below_al (Below.refl _ _) _) (ov_bel _ _)))) | (go_at_call 31; exact calls_ov_same (HE2.out _ (below_tr (below_al (Below.refl _ _) _) (ov_bel _ _)))) | (go_at_call 41; exact calls_ov_same (rwithin_any _ _ _ _)))))); refine wpQuiet_nil ?_; refine hR.out _ ?_; clear hR R; intro W hW; have hc := hW.cells; have hf := hW.frozens; have hz := hW.size; (try simp at hz))
          have hb2 := Lib.hid (below_tr (below_tr hb.out (below_al (Below.refl _ _) _)) hW)
          clear hc hf hz hW
          go_wp2
          go_ret2
          exact ⟨by rw [hno.out]; rfl, hb2.out⟩
        | true =>
          cases q2 : inR xh hour ((E : Int) - 1) with
          | false =>
            have hno : Hid (leadsF n E f s xs = none) := Lib.hid (leadsF_take_none (j := j + 1) (by rw [hst.out, if_neg (by simp [q2])]))
            go_wp2
            (refine wp_region_ov (by kernel_rfl) (by kernel_rfl) (fun R hR => ?_); (repeat (go_big_quiet_step ((first | (go_at_call 45; exact calls_ov (HS2.out _ _ (below_tr (below_al (Below.refl _ _) _) (ov_bel _ _)))) | (go_at_call 31; exact calls_ov_same (HE2.out _ (below_tr (below_al (Below.refl _ _) _) (ov_bel _ _)))) | (go_at_call 41; exact calls_ov_same (rwithin_any _ _ _ _)))))); refine wpQuiet_nil ?_; refine hR.out _ ?_; clear hR R; intro W hW; have hc := hW.cells; have hf := hW.frozens; have hz := hW.size; (try simp at hz))
            have hb2 := Lib.hid (below_tr (below_tr hb.out (below_al (Below.refl _ _) _)) hW)
            clear hc hf hz hW
            go_wp2
            go_ret2
            exact ⟨by rw [hno.out]; rfl, hb2.out⟩
          | true =>
            have hyes : Hid (leadsF n E f s (xs.take (j + 1)) = some (xb, xh + 1)) := Lib.hid (by rw [hst.out, if_pos (by simp [q0'.out, q1, q2])])
            obtain ⟨r1, r2⟩ := inR_true.1 q2
            go_wp2
            (refine wp_region_ov (by kernel_rfl) (by kernel_rfl) (fun R hR => ?_); (repeat (go_big_quiet_step ((first | (go_at_call 45; exact calls_ov (HS2.out _ _ (below_tr (below_al (Below.refl _ _) _) (ov_bel _ _)))) | (go_at_call 31; exact calls_ov_same (HE2.out _ (below_tr (below_al (Below.refl _ _) _) (ov_bel _ _)))) | (go_at_call 41; exact calls_ov_same (rwithin_any _ _ _ _)))))); refine wpQuiet_nil ?_; refine hR.out _ ?_; clear hR R; intro W hW; have hc := hW.cells; have hf := hW.frozens; have hz := hW.size; (try simp at hz))
            have hbW : Below wr.heap.size wr W := by (repeat (first | exact Below.refl _ _ | (with_reducible exact Hid.out (by assumption)) | refine below_al ?_ _ | refine below_dr ?_ | refine below_tr ?_ (by assumption) | refine below_tr ?_ (Bel.out (by assumption)) | refine below_tr ?_ (Bel.out (ov_bel _ _)) | refine below_set ?_ (by simp; try omega)))
            have hb2 := Lib.hid (below_tr hb.out hbW)
            have y0' := kept_of_below hbW _ _ y0
            have y1' := kept_of_below hbW _ _ y1
            have z0' := (hbW.frozen (p := ⟨w.heap.size, 0, none⟩) hlw).trans z0
            have z1' := (hbW.frozen (p := ⟨w.heap.size, 1, none⟩) hlw).trans z1
            have u1 : W.cell? ⟨wr.heap.size, 1, none⟩ = some (.int .i64 xb) := (by (try go_simp); (repeat (simp only [↓IntWalk.iteOmega]; (try go_simp))); (try omega))
            have u2 : W.cell? ⟨wr.heap.size, 2, none⟩ = some (.int .i64 xh) := (by (try go_simp); (repeat (simp only [↓IntWalk.iteOmega]; (try go_simp))); (try omega))
            have hzW := hbW.size
            have hbW' := Lib.hid hbW
            have hlW := cell_lt u1
            simp only at hlW
            replace hyes := Lib.hid hyes.out
            clear hc hW hf hz hbW y0 y1 z0 z1 q0 q1 q2 e0 e1 e2
            go_wp2
            go_roundw
            case rel => exact ⟨j + 1, xb, xh + 1, by omega, by go_num, hyes.out, by omega, by omega, (by (try go_simp); (repeat (simp only [↓IntWalk.iteOmega]; (try go_simp))); (try omega)), (by (try go_simp); (repeat (simp only [↓IntWalk.iteOmega]; (try go_simp))); (try omega)), (by (try go_simp); (repeat (simp only [↓IntWalk.iteOmega]; (try go_simp))); (try omega)), (by (try go_simp); (repeat (simp only [↓IntWalk.iteOmega]; (try go_simp))); (try omega)), (hb2.out.setCell (by simp) _).setCell (by simp) _⟩
            case measure => simp [intOf]; omega
    · obtain rfl : j = xs.length := by omega
      rw [List.take_length] at hld
      replace hld := Lib.hid hld
      replace hb := Lib.hid hb
      go_wp2
      go_ret2
      exact ⟨by rw [hld.out]; rfl, hb.out⟩
end Go.Proofs.Ytdfohielnfdmkaa

/- Walks: package relay: where a route sticks. -/
set_option linter.unusedVariables false
set_option linter.unusedSimpArgs false
namespace Go.Proofs.Ytdfohielnfdmkaa
open Go.RowKit
attribute [local go_sem low] cell_alloc_ite frozen_alloc_ite ov_cell ov_frozen cell_alloc_map frozen_alloc_map

/-- The first hop, and its first case, that does not work; none if each works. -/
def IsStk (C : Nat) (g : Hp → Nat → Bool) (xs : List Hp) : Option (Nat × Nat) → Prop
  | none => ∀ (i : Nat) (x : Hp), xs[i]? = some x → ∀ k, k < C → g x k = true
  | some (i, k) => ∃ x, xs[i]? = some x ∧ k < C ∧ g x k = false ∧ (∀ k', k' < k → g x k' = true) ∧ ∀ (i' : Nat) (x' : Hp), i' < i → xs[i']? = some x' → ∀ k', k' < C → g x' k' = true
theorem IsStk.unique {C : Nat} {g : Hp → Nat → Bool} {xs : List Hp} {o o' : Option (Nat × Nat)} (h : IsStk C g xs o) (h' : IsStk C g xs o') : o = o' := by
  match o, o', h, h' with
  | none, none, _, _ => rfl
  | none, some (i, k), h, ⟨x, hx, hk, hg, _⟩ => rw [h i x hx k hk] at hg; cases hg
  | some (i, k), none, ⟨x, hx, hk, hg, _⟩, h => rw [h i x hx k hk] at hg; cases hg
  | some (i, k), some (i', k'), ⟨x, hx, hk, hg, hl, hb⟩, ⟨x', hx', hk', hg', hl', hb'⟩ =>
    have e : i = i' := by
      rcases Nat.lt_trichotomy i i' with h | h | h
      · rw [hb' i x h hx k hk] at hg; cases hg
      · exact h
      · rw [hb i' x' h hx' k' hk'] at hg'; cases hg'
    subst e
    rw [hx] at hx'
    cases hx'
    have : k = k' := by
      rcases Nat.lt_trichotomy k k' with h | h | h
      · rw [hl' k h] at hg; cases hg
      · exact h
      · rw [hl k' h] at hg'; cases hg'
    rw [this]
/-- Whether a hop works in a case. -/
def hopB (L : Lnd) (x : Hp) (k : Nat) : Bool := canN L x.a.toNat x.b.toNat k x.h.toNat
/-- A hop between stations of a land, at one of its hours. -/
def HopOk (L : Lnd) (x : Hp) : Prop := (0 ≤ x.a ∧ x.a < L.st.length) ∧ (0 ≤ x.b ∧ x.b < L.st.length) ∧ 0 ≤ x.h ∧ x.h < L.su.length
theorem leadsF_ok {L : Lnd} : ∀ (xs : List Hp) (f s : Int) (r : Int × Int), leadsF L.st.length L.su.length f s xs = some r → 0 ≤ f → f < L.st.length → 0 ≤ s → (∀ x ∈ xs, HopOk L x) ∧ 0 ≤ r.1 ∧ r.1 < L.st.length ∧ s ≤ r.2
  | [], f, s, r, h, f0, f1, s0 => by cases h; exact ⟨fun x hx => by simp at hx, f0, f1, Int.le_refl _⟩
  | y :: ys, f, s, r, h, f0, f1, s0 => by
    simp only [leadsF] at h
    split at h
    · rename_i hc
      simp only [Bool.and_eq_true, decide_eq_true_eq, inR_true] at hc
      obtain ⟨⟨h1, h2, h3⟩, h4, h5⟩ := hc
      obtain ⟨k1, k2, k3, k4⟩ := leadsF_ok ys y.b (y.h + 1) r h h2 (by omega) (by omega)
      refine ⟨fun x hx => ?_, k2, k3, by omega⟩
      rcases List.mem_cons.1 hx with rfl | hx
      · exact ⟨by omega, by omega, by omega⟩
      · exact k1 x hx
    · cases h
def stkV (o : Option (Nat × Nat)) : Value := match o with
  | none => .tuple #[.int .i64 0, .int .i64 0, .bool false]
  | some (i, k) => .tuple #[.int .i64 i, .int .i64 k, .bool true]
/-- What 'stick' gives. -/
def StkMade (L : Lnd) (rs : Nat → Nat) (xs : List Hp) (w : World) (e : Ending) (w' : World) : Prop :=
  ∃ o, IsStk L.ca.length (hopB L) xs o ∧ e = .returned (stkV o) ∧ KeepM (MS L rs) w w' ∧ RM w' L rs
def SkI (L : Lnd) (rs : Nat → Nat) (xs : List Hp) (w : World) (i : Value) (wr : World) : Prop :=
  ∃ j : Nat, j ≤ xs.length ∧ i = .int .i64 j ∧ (∀ (i' : Nat) (x' : Hp), i' < j → xs[i']? = some x' → ∀ k', k' < L.ca.length → hopB L x' k' = true) ∧ KeepM (MS L rs) w wr ∧ RM wr L rs
def SkJ (L : Lnd) (rs : Nat → Nat) (x : Hp) (w : World) (i : Value) (wr : World) : Prop :=
  ∃ k : Nat, k ≤ L.ca.length ∧ i = .int .i64 k ∧ (∀ k', k' < k → hopB L x k' = true) ∧ KeepM (MS L rs) w wr ∧ RM wr L rs

set_option maxRecDepth 100000 in
set_option maxHeartbeats 8000000 in
theorem stick_any (p kb kc : Nat) (V : LV) (L : Lnd) (rs : Nat → Nat) (A : Option Addr) (c : Nat) (xs : List Hp) (w : World) (hw : RW w p kb kc V L rs) (hm : RM w L rs) (ok : Okay L) (hx : RowAt w A 3 encHp xs) (lx : xs.length ≤ 100) (hok : ∀ x ∈ xs, HopOk L x) :
    Calls Try.prog 38 #[.pointer (some ⟨p, 0, none⟩), .slice A xs.length c] w (StkMade L rs xs w) := by
  have x2 := hw.cells 2 _ rfl
  have hc1 := ok.c1
  have hs1 := ok.s1
  have hlp := cell_lt x2
  simp only at hlp
  have HC := Lib.hid (fun (W : World) (hk : KeepM (MS L rs) w W) (hm' : RM W L rs) (i k h : Nat) (li : i < L.st.length) (lk : k < L.ca.length) (lh : h < L.su.length) => from_any p kb kc V L rs i k h W (hw.keep hk) hm' ok li lk lh)
  have hM0 := Lib.hid hm.maps
  have HM := Lib.hid hm
  have HX := Lib.hid hx
  have HOK := Lib.hid hok
  clear hw hm hx hok
  go_enter Try.func38, Try.ntmps38
  go_wp2
  go_loopw [12] (fun i wr => SkI L rs xs w i wr) (fun i _ => xs.length - (intOf i).toNat)
  case atStart => exact ⟨0, Nat.zero_le _, rfl, fun i' x' h => by omega, .refl hM0.out, HM.out⟩
  case round =>
    obtain ⟨j, hj, rfl, hall, hkm, hrm⟩ := hrel
    have y2 := hkm.kept _ _ x2
    have hszw := hkm.size
    have hnp : ¬ p = wr.heap.size := by omega
    clear x2
    replace hall := Lib.hid hall
    by_cases hlt : j < xs.length
    · have hxj := List.getElem?_eq_getElem hlt
      obtain ⟨b, o, hA, e0, e1, e2⟩ := (HX.out.kept hkm.kept).hp hxj
      have hl := cell_lt e0
      have hxo := HOK.out _ (List.getElem_mem hlt)
      generalize xs[j] = x at *
      simp only at hA hl
      subst hA
      have HXj := Lib.hid hxj
      obtain ⟨xa, xb, xh⟩ := x
      simp only at e0 e1 e2
      obtain ⟨⟨a0, a1⟩, ⟨b0, b1⟩, h0, h1⟩ := hxo
      simp only at a0 a1 b0 b1 h0 h1
      obtain ⟨xa, rfl⟩ := Int.eq_ofNat_of_zero_le a0
      obtain ⟨xb, rfl⟩ := Int.eq_ofNat_of_zero_le b0
      obtain ⟨xh, rfl⟩ := Int.eq_ofNat_of_zero_le h0
      replace hkm := Lib.hid hkm
      replace hrm := Lib.hid hrm
      clear hxj
      go_wp2
      generalize hA : wr.alloc (.cells #[.int .i64 xa, .int .i64 xb, .int .i64 xh] 63) = w1
      have hB1 : Below wr.heap.size wr w1 := by subst hA; (repeat (first | exact Below.refl _ _ | (with_reducible exact Hid.out (by assumption)) | refine below_al ?_ _ | refine below_dr ?_ | refine below_tr ?_ (by assumption) | refine below_tr ?_ (Bel.out (by assumption)) | refine below_tr ?_ (Bel.out (ov_bel _ _)) | refine below_set ?_ (by simp; try omega)))
      have z0 : w1.cell? ⟨wr.heap.size, 0, none⟩ = some (.int .i64 xa) := by subst hA; exact (by (try go_simp); (repeat (simp only [↓IntWalk.iteOmega]; (try go_simp))); (try omega))
      have z1 : w1.cell? ⟨wr.heap.size, 1, none⟩ = some (.int .i64 xb) := by subst hA; exact (by (try go_simp); (repeat (simp only [↓IntWalk.iteOmega]; (try go_simp))); (try omega))
      have z2 : w1.cell? ⟨wr.heap.size, 2, none⟩ = some (.int .i64 xh) := by subst hA; exact (by (try go_simp); (repeat (simp only [↓IntWalk.iteOmega]; (try go_simp))); (try omega))
      have hkm1 := Lib.hid (hkm.out.tr hB1)
      have hrm1 := Lib.hid (hrm.out.below hB1)
      clear hA hB1 y2 e0 e1 e2
      obtain ⟨wo, rfl⟩ : ∃ wo, wo = wr := ⟨wr, rfl⟩
      go_loopw [23] (fun k wi => SkJ L rs ⟨xa, xb, xh⟩ w1 k wi) (fun k _ => L.ca.length - (intOf k).toNat)
      case atStart => exact ⟨0, Nat.zero_le _, rfl, fun k' h => by omega, .refl hrm1.out.maps, hrm1.out⟩
      case round =>
        obtain ⟨k, hk, rfl, hpre, hkm2, hrm2⟩ := hrel
        have t0 := hkm2.kept _ _ z0
        have t1 := hkm2.kept _ _ z1
        have t2 := hkm2.kept _ _ z2
        clear z0 z1 z2
        replace hpre := Lib.hid hpre
        have hkm3 := Lib.hid (hkm1.out.trans hkm2)
        have hkmi := Lib.hid hkm2
        replace hrm2 := Lib.hid hrm2
        clear hkm2
        by_cases hlk : k < L.ca.length
        · have hfl : flN L xa k xh < 64 := fl_lt hs1
          have ha := and_one (flN L xa k xh) xb hfl
          have hsh : Hid (hopB L ⟨xa, xb, xh⟩ k = canN L xa xb k xh) := Lib.hid rfl
          have hbit := Lib.hid (show (flN L xa k xh).testBit xb = canN L xa xb k xh from by
            cases hq : (flN L xa k xh).testBit xb with
            | true => exact (bit_can hq).2.symm
            | false =>
              cases hq2 : canN L xa xb k xh with
              | false => rfl
              | true => rw [can_bit (by omega) hq2] at hq; cases hq)
          have HF : Hid (∀ W, KeepM (MS L rs) w W → RM W L rs → Calls Try.prog 42 #[.pointer (some ⟨p, 0, none⟩), .int .i64 k, .agg #[.int .i64 xa, .int .i64 xh]] W (FromMade L rs xa k xh W)) := Lib.hid (fun W h1 h2 => HC.out W h1 h2 xa k xh (by omega) hlk (by omega))
          unfold FromMade at HF
          generalize flN L xa k xh = fl at *
          cases hcn : canN L xa xb k xh with
          | true =>
            rw [hbit.out, hcn] at ha
            simp only [if_true] at ha
            have hh : Hid (hopB L ⟨xa, xb, xh⟩ k = true) := Lib.hid (by rw [hsh.out, hcn])
            go_wp2
            go_region_held3 (fun W => W.cell? ⟨wo.heap.size, 0, none⟩ = some (.int .i64 xa) ∧ W.cell? ⟨wo.heap.size, 1, none⟩ = some (.int .i64 xb) ∧ W.cell? ⟨wo.heap.size, 2, none⟩ = some (.int .i64 xh))
              (first | exact s4.out | (refine ⟨(by (try go_simp); (repeat (simp only [↓IntWalk.iteOmega]; (try go_simp))); (try omega)), (by (try go_simp); (repeat (simp only [↓IntWalk.iteOmega]; (try go_simp))); (try omega)), (by (try go_simp); (repeat (simp only [↓IntWalk.iteOmega]; (try go_simp))); (try omega))⟩))
              (first | (go_at_call 42; refine (HF.out _ (hkm3.out.tr (by (repeat (first | exact Below.refl _ _ | (with_reducible exact Hid.out (by assumption)) | refine below_al ?_ _ | refine below_dr ?_ | refine below_tr ?_ (by assumption) | refine below_tr ?_ (Bel.out (by assumption)) | refine below_tr ?_ (Bel.out (ov_bel _ _)) | refine below_set ?_ (by simp; try omega))))) (hrm2.out.below (by (repeat (first | exact Below.refl _ _ | (with_reducible exact Hid.out (by assumption)) | refine below_al ?_ _ | refine below_dr ?_ | refine below_tr ?_ (by assumption) | refine below_tr ?_ (Bel.out (by assumption)) | refine below_tr ?_ (Bel.out (ov_bel _ _)) | refine below_set ?_ (by simp; try omega)))))).mono ?_; rintro e w5 ⟨rfl, hkm5, hrm5⟩; have s4 := Lib.hid (show w5.cell? ⟨wo.heap.size, 0, none⟩ = some (.int .i64 xa) ∧ w5.cell? ⟨wo.heap.size, 1, none⟩ = some (.int .i64 xb) ∧ w5.cell? ⟨wo.heap.size, 2, none⟩ = some (.int .i64 xh) from ⟨hkm5.kept _ _ (by (try go_simp); (repeat (simp only [↓IntWalk.iteOmega]; (try go_simp))); (try omega)), hkm5.kept _ _ (by (try go_simp); (repeat (simp only [↓IntWalk.iteOmega]; (try go_simp))); (try omega)), hkm5.kept _ _ (by (try go_simp); (repeat (simp only [↓IntWalk.iteOmega]; (try go_simp))); (try omega))⟩); replace hkm5 := Lib.hid hkm5; replace hrm5 := Lib.hid hrm5))
            have hkm6 : Hid (KeepM (MS L rs) w1 w5) := Lib.hid ((hkmi.out.tr (by (repeat (first | exact Below.refl _ _ | (with_reducible exact Hid.out (by assumption)) | refine below_al ?_ _ | refine below_dr ?_ | refine below_tr ?_ (by assumption) | refine below_tr ?_ (Bel.out (by assumption)) | refine below_tr ?_ (Bel.out (ov_bel _ _)) | refine below_set ?_ (by simp; try omega))))).trans hkm5.out)
            clear t0 t1 t2 s4 hkm5 ha
            go_wp2
            go_roundw
            case rel => exact ⟨k + 1, by omega, by go_num, fun k' h => by by_cases e : k' = k; subst e; exact hh.out; exact hpre.out k' (by omega), hkm6.out, hrm5.out⟩
            case measure => simp [intOf]; omega
          | false =>
            rw [hbit.out, hcn] at ha
            simp only [Bool.false_eq_true, if_false] at ha
            have hh : Hid (hopB L ⟨xa, xb, xh⟩ k = false) := Lib.hid (by rw [hsh.out, hcn])
            go_wp2
            go_region_held3 (fun W => W.cell? ⟨wo.heap.size, 0, none⟩ = some (.int .i64 xa) ∧ W.cell? ⟨wo.heap.size, 1, none⟩ = some (.int .i64 xb) ∧ W.cell? ⟨wo.heap.size, 2, none⟩ = some (.int .i64 xh))
              (first | exact s4.out | (refine ⟨(by (try go_simp); (repeat (simp only [↓IntWalk.iteOmega]; (try go_simp))); (try omega)), (by (try go_simp); (repeat (simp only [↓IntWalk.iteOmega]; (try go_simp))); (try omega)), (by (try go_simp); (repeat (simp only [↓IntWalk.iteOmega]; (try go_simp))); (try omega))⟩))
              (first | (go_at_call 42; refine (HF.out _ (hkm3.out.tr (by (repeat (first | exact Below.refl _ _ | (with_reducible exact Hid.out (by assumption)) | refine below_al ?_ _ | refine below_dr ?_ | refine below_tr ?_ (by assumption) | refine below_tr ?_ (Bel.out (by assumption)) | refine below_tr ?_ (Bel.out (ov_bel _ _)) | refine below_set ?_ (by simp; try omega))))) (hrm2.out.below (by (repeat (first | exact Below.refl _ _ | (with_reducible exact Hid.out (by assumption)) | refine below_al ?_ _ | refine below_dr ?_ | refine below_tr ?_ (by assumption) | refine below_tr ?_ (Bel.out (by assumption)) | refine below_tr ?_ (Bel.out (ov_bel _ _)) | refine below_set ?_ (by simp; try omega)))))).mono ?_; rintro e w5 ⟨rfl, hkm5, hrm5⟩; have s4 := Lib.hid (show w5.cell? ⟨wo.heap.size, 0, none⟩ = some (.int .i64 xa) ∧ w5.cell? ⟨wo.heap.size, 1, none⟩ = some (.int .i64 xb) ∧ w5.cell? ⟨wo.heap.size, 2, none⟩ = some (.int .i64 xh) from ⟨hkm5.kept _ _ (by (try go_simp); (repeat (simp only [↓IntWalk.iteOmega]; (try go_simp))); (try omega)), hkm5.kept _ _ (by (try go_simp); (repeat (simp only [↓IntWalk.iteOmega]; (try go_simp))); (try omega)), hkm5.kept _ _ (by (try go_simp); (repeat (simp only [↓IntWalk.iteOmega]; (try go_simp))); (try omega))⟩); replace hkm5 := Lib.hid hkm5; replace hrm5 := Lib.hid hrm5))
            have hkm6 : Hid (KeepM (MS L rs) w w5) := Lib.hid ((hkm3.out.tr (by (repeat (first | exact Below.refl _ _ | (with_reducible exact Hid.out (by assumption)) | refine below_al ?_ _ | refine below_dr ?_ | refine below_tr ?_ (by assumption) | refine below_tr ?_ (Bel.out (by assumption)) | refine below_tr ?_ (Bel.out (ov_bel _ _)) | refine below_set ?_ (by simp; try omega))))).trans hkm5.out)
            clear t0 t1 t2 s4 hkm5 ha
            go_wp2
            go_ret3
            exact ⟨some (j, k), ⟨_, HXj.out, hlk, hh.out, hpre.out, hall.out⟩, rfl, hkm6.out, hrm5.out⟩
        · obtain rfl : k = L.ca.length := by omega
          clear t0 t1 t2
          go_wp2
          go_roundw
          case rel => exact ⟨j + 1, by omega, by go_num, fun i' x' hi hx' k' hk' => by by_cases e : i' = j; subst e; rw [HXj.out] at hx'; cases hx'; exact hpre.out k' hk'; exact hall.out i' x' (by omega) hx' k' hk', hkm3.out, hrm2.out⟩
          case measure => simp [intOf]; omega
    · obtain rfl : j = xs.length := by omega
      replace hkm := Lib.hid hkm
      replace hrm := Lib.hid hrm
      go_wp2
      go_ret3
      exact ⟨none, fun i x hx k hk => hall.out i x (List.getElem?_eq_some_iff.1 hx).1 hx k hk, rfl, hkm.out, hrm.out⟩
end Go.Proofs.Ytdfohielnfdmkaa

/- Walks: package relay: Stick, ProveRoute. -/
set_option linter.unusedVariables false
set_option linter.unusedSimpArgs false
namespace Go.Proofs.Ytdfohielnfdmkaa
open Go.RowKit
attribute [local go_sem low] cell_alloc_ite frozen_alloc_ite ov_cell ov_frozen cell_alloc_map frozen_alloc_map

/-- What 'Stick' answers. -/
def StickIs (L : Lnd) (f s : Int) (xs : List Hp) (r : Int × Int × Int) : Prop :=
  (openE L [f] [s] 0 ≠ 0 ∧ r = (0, 0, openE L [f] [s] 0)) ∨ (openE L [f] [s] 0 = 0 ∧ ((12 < xs.length ∧ r = (0, 0, 3)) ∨ (xs.length ≤ 12 ∧ ((leadsF L.st.length L.su.length f s xs = none ∧ r = (0, 0, 2)) ∨
    ∃ q o, leadsF L.st.length L.su.length f s xs = some q ∧ IsStk L.ca.length (hopB L) xs o ∧ r = match o with | none => (0, 0, 7) | some (i, k) => ((i : Int), (k : Int), 0)))))
def StickTop (L : Lnd) (f s : Int) (xs : List Hp) (w : World) (e : Ending) (w' : World) : Prop := ∃ r, StickIs L f s xs r ∧ e = .returned (.tuple #[.int .i64 r.1, .int .i64 r.2.1, .int .i64 r.2.2]) ∧ Below w.heap.size w w'

set_option maxRecDepth 100000 in
set_option maxHeartbeats 8000000 in
theorem stickTop_any (V : LV) (L : Lnd) (f s : Int) (A : Option Addr) (c : Nat) (xs : List Hp) (w : World) (hr : RdL w V L) (hx : RowAt w A 3 encHp xs) (lx : xs.length ≤ 100) :
    Calls Try.prog 21 #[vLnd V L, .int .i64 f, .int .i64 s, .slice A xs.length c] w (StickTop L f s xs w) := by
  have l0 := hr.l0
  have l3 := hr.l3
  cases he : (openE L [f] [s] 0 != 0) with
  | true =>
    have HO := Lib.hid (fun W b1 b2 (hW : Below w.heap.size w W) h0 h2 => open11_err V L f s 0 b1 b2 W (hr.below hW) h0 h2 he)
    have hne : Hid (openE L [f] [s] 0 ≠ 0) := Lib.hid (by simpa using he)
    clear hr hx
    go_enter Try.func21, Try.ntmps21
    go_wp2_with (go_at_call 27; refine (HO.out _ (w.heap.size + 1) (w.heap.size + 1 + 1) (by (repeat (first | exact Below.refl _ _ | (with_reducible exact Hid.out (by assumption)) | refine below_al ?_ _ | refine below_dr ?_ | refine below_tr ?_ (by assumption) | refine below_tr ?_ (Bel.out (by assumption)) | refine below_tr ?_ (Bel.out (ov_bel _ _)) | refine below_set ?_ (by simp; try omega)))) (by (try go_simp); (repeat (simp only [↓IntWalk.iteOmega]; (try go_simp))); (try omega)) (by (try go_simp); (repeat (simp only [↓IntWalk.iteOmega]; (try go_simp))); (try omega))).mono ?_; rintro e w' ⟨rfl, hb⟩; obtain ⟨hc, hf⟩ := bcell hb; have hz := hb.size; try simp at hz)
    go_ret3
    exact ⟨_, .inl ⟨hne.out, rfl⟩, rfl, by (repeat (first | exact Below.refl _ _ | (with_reducible exact Hid.out (by assumption)) | refine below_al ?_ _ | refine below_dr ?_ | refine below_tr ?_ (by assumption) | refine below_tr ?_ (Bel.out (by assumption)) | refine below_tr ?_ (Bel.out (ov_bel _ _)) | refine below_set ?_ (by simp; try omega)))⟩
  | false =>
    have he0 : openE L [f] [s] 0 = 0 := by simpa using he
    have HO := Lib.hid (fun W b1 b2 (hW : Below w.heap.size w W) h0 h2 => open11_ok V L f s 0 b1 b2 W (hr.below hW) h0 h2 he0)
    obtain ⟨hf, hst, hti, _⟩ := openE_zero he0
    obtain ⟨f0, f1⟩ := hst f (by simp)
    obtain ⟨s0, s1⟩ := hti s (by simp)
    have ok := okay_of hf
    have hu1 := ok.u1
    have HX := Lib.hid hx
    have HZ := Lib.hid he0
    have HLd := Lib.hid (fun p (W : World) (hW : Kept w W) (hc : CellsAt W p (landCells V L)) => leads_any p V L f s A c xs W hc l0 l3 (hx.kept hW) lx s0 (by omega))
    have HSt := Lib.hid (fun p kb kc rs (W : World) (hw : RW W p kb kc V L rs) (hm : RM W L rs) (hW : Kept w W) (hok : ∀ x ∈ xs, HopOk L x) => stick_any p kb kc V L rs A c xs W hw hm ok (hx.kept hW) lx hok)
    have HOk := Lib.hid (fun q (h : leadsF L.st.length L.su.length f s xs = some q) => (leadsF_ok xs f s q h f0 f1 s0).1)
    clear he hr hx hst hti ok hf
    by_cases h12 : 12 < xs.length
    · clear HLd HSt HOk he0
      go_enter Try.func21, Try.ntmps21
      go_wp2_with fail
      refine (HO.out _ (w.heap.size + 1) (w.heap.size + 1 + 1) (by (repeat (first | exact Below.refl _ _ | (with_reducible exact Hid.out (by assumption)) | refine below_al ?_ _ | refine below_dr ?_ | refine below_tr ?_ (by assumption) | refine below_tr ?_ (Bel.out (by assumption)) | refine below_tr ?_ (Bel.out (ov_bel _ _)) | refine below_set ?_ (by simp; try omega)))) (by (try go_simp); (repeat (simp only [↓IntWalk.iteOmega]; (try go_simp))); (try omega)) (by (try go_simp); (repeat (simp only [↓IntWalk.iteOmega]; (try go_simp))); (try omega))).mono ?_
      rintro e w1 ⟨p, kb, kc, rs, rfl, hb, hrw, hmap⟩
      have hB := Lib.hid (show Below w.heap.size w w1 by (repeat (first | exact Below.refl _ _ | (with_reducible exact Hid.out (by assumption)) | refine below_al ?_ _ | refine below_dr ?_ | refine below_tr ?_ (by assumption) | refine below_tr ?_ (Bel.out (by assumption)) | refine below_tr ?_ (Bel.out (ov_bel _ _)) | refine below_set ?_ (by simp; try omega))))
      clear hmap hb hrw
      go_wp2
      go_ret3
      exact ⟨_, .inr ⟨HZ.out, .inl ⟨h12, rfl⟩⟩, rfl, hB.out⟩
    · go_enter Try.func21, Try.ntmps21
      clear he0
      go_wp2_with fail
      refine (HO.out _ (w.heap.size + 1) (w.heap.size + 1 + 1) (by (repeat (first | exact Below.refl _ _ | (with_reducible exact Hid.out (by assumption)) | refine below_al ?_ _ | refine below_dr ?_ | refine below_tr ?_ (by assumption) | refine below_tr ?_ (Bel.out (by assumption)) | refine below_tr ?_ (Bel.out (ov_bel _ _)) | refine below_set ?_ (by simp; try omega)))) (by (try go_simp); (repeat (simp only [↓IntWalk.iteOmega]; (try go_simp))); (try omega)) (by (try go_simp); (repeat (simp only [↓IntWalk.iteOmega]; (try go_simp))); (try omega))).mono ?_
      rintro e w1 ⟨p, kb, kc, rs, rfl, hb, hrw, hmap⟩
      have hB := Lib.hid (show Below w.heap.size w w1 by (repeat (first | exact Below.refl _ _ | (with_reducible exact Hid.out (by assumption)) | refine below_al ?_ _ | refine below_dr ?_ | refine below_tr ?_ (by assumption) | refine below_tr ?_ (Bel.out (by assumption)) | refine below_tr ?_ (Bel.out (ov_bel _ _)) | refine below_set ?_ (by simp; try omega))))
      have hrm := Lib.hid (rm_new (L := L) (fun k hk => (hmap k hk).2))
      have hge := Lib.hid (fun k hk => (hmap k hk).1)
      replace hrw := Lib.hid hrw
      clear hmap hb
      go_wp2_with fail
      refine (HLd.out p w1 (kept_of_below hB.out) hrw.out.cells).mono ?_
      rintro e w2 ⟨rfl, hb2⟩
      have hB2 := Lib.hid (below_tr hB.out hb2)
      have hkm2 := Lib.hid (KeepM.of_below (S := MS L rs) hrm.out.maps hb2)
      have hrm2 := Lib.hid (hrm.out.below hb2)
      clear hb2
      cases hld : leadsF L.st.length L.su.length f s xs with
      | none =>
        replace hld := Lib.hid hld
        simp only [leadsR]
        go_wp2
        go_ret3
        exact ⟨_, .inr ⟨HZ.out, .inr ⟨by omega, .inl ⟨hld.out, rfl⟩⟩⟩, rfl, hB2.out⟩
      | some q =>
        have hok := Lib.hid (HOk.out q hld)
        replace hld := Lib.hid hld
        obtain ⟨q1, q2⟩ := q
        simp only [leadsR]
        go_wp2_with fail
        refine (HSt.out p kb kc rs w2 (hrw.out.keep hkm2.out) hrm2.out (kept_of_below hB2.out) hok.out).mono ?_
        rintro e w3 ⟨o, hio, rfl, hkm3, hrm3⟩
        have hfin : Hid (Below w.heap.size w w3) := Lib.hid (KeepM.below hB.out (hkm2.out.trans hkm3) (fun i ⟨k, hk, e⟩ => by subst e; have := hge.out k hk; simp at this; omega))
        replace hio := Lib.hid hio
        clear hkm3 hrm3
        cases o with
        | none =>
          simp only [stkV]
          go_wp2
          go_ret3
          exact ⟨_, .inr ⟨HZ.out, .inr ⟨by omega, .inr ⟨_, none, hld.out, hio.out, rfl⟩⟩⟩, rfl, hfin.out⟩
        | some ik =>
          obtain ⟨i, k⟩ := ik
          simp only [stkV]
          go_wp2
          go_ret3
          exact ⟨_, .inr ⟨HZ.out, .inr ⟨by omega, .inr ⟨_, some (i, k), hld.out, hio.out, rfl⟩⟩⟩, rfl, hfin.out⟩

/-- Whether a list is proved to be a route that works in each case and arrives in time. -/
def PrRoute (L : Lnd) (f t s : Int) (xs : List Hp) (b : Int) : Prop :=
  openE L [f, t] [s, b] 0 = 0 ∧ xs.length ≤ 12 ∧ ∃ h, leadsF L.st.length L.su.length f s xs = some (t, h) ∧ IsStk L.ca.length (hopB L) xs none ∧ h ≤ b
theorem leadsF_end {n E : Nat} : ∀ (xs : List Hp) (f s : Int) (q : Int × Int), leadsF n E f s xs = some q → q.2 = match xs.getLast? with | some x => x.h + 1 | none => s
  | [], f, s, q, h => by cases h; rfl
  | [x], f, s, q, h => by
    simp only [leadsF] at h
    split at h
    · cases h; rfl
    · cases h
  | x :: y :: ys, f, s, q, h => by
    rw [leadsF] at h
    split at h
    · have := leadsF_end (y :: ys) _ _ q h
      rw [this, List.getLast?_cons_cons]
      cases hgl : (y :: ys).getLast? with
      | none => simp at hgl
      | some z => rfl
    · cases h
def ProveTop (p : Prop) (w : World) (e : Ending) (w' : World) : Prop := ∃ b : Bool, (b = true ↔ p) ∧ e = .returned (.bool b) ∧ Below w.heap.size w w'
theorem open22_err (V : LV) (L : Lnd) (f t s b : Int) (b1 b2 : Nat) (w : World) (hr : RdL w V L) (h0 : w.cell? ⟨b1, 0, none⟩ = some (.int .i64 f)) (h1 : w.cell? ⟨b1, 1, none⟩ = some (.int .i64 t)) (h2 : w.cell? ⟨b2, 0, none⟩ = some (.int .i64 s)) (h3 : w.cell? ⟨b2, 1, none⟩ = some (.int .i64 b)) (he : (openE L [f, t] [s, b] 0 != 0) = true) :
    Calls Try.prog 27 #[vLnd V L, .slice (some ⟨b1, 0, none⟩) 2 2, .slice (some ⟨b2, 0, none⟩) 2 2, .int .i64 0] w fun e w' => e = .returned (.tuple #[.pointer none, .int .i64 (openE L [f, t] [s, b] 0)]) ∧ Below w.heap.size w w' :=
  open_err V L (some ⟨b1, 0, none⟩) (some ⟨b2, 0, none⟩) 2 2 [f, t] [s, b] 0 w hr (rowInts2 h0 h1) (rowInts2 h2 h3) (by simp) (by simp) he
theorem open22_ok (V : LV) (L : Lnd) (f t s b : Int) (b1 b2 : Nat) (w : World) (hr : RdL w V L) (h0 : w.cell? ⟨b1, 0, none⟩ = some (.int .i64 f)) (h1 : w.cell? ⟨b1, 1, none⟩ = some (.int .i64 t)) (h2 : w.cell? ⟨b2, 0, none⟩ = some (.int .i64 s)) (h3 : w.cell? ⟨b2, 1, none⟩ = some (.int .i64 b)) (he : openE L [f, t] [s, b] 0 = 0) :
    Calls Try.prog 27 #[vLnd V L, .slice (some ⟨b1, 0, none⟩) 2 2, .slice (some ⟨b2, 0, none⟩) 2 2, .int .i64 0] w (OpenMade V L w) :=
  open_ok V L (some ⟨b1, 0, none⟩) (some ⟨b2, 0, none⟩) 2 2 [f, t] [s, b] 0 w hr (openE_zero he).1 (rowInts2 h0 h1) (rowInts2 h2 h3) (by simp) (by simp) he

set_option maxRecDepth 100000 in
set_option maxHeartbeats 8000000 in
theorem proveRoute_any (V : LV) (L : Lnd) (f t s b : Int) (A : Option Addr) (c : Nat) (xs : List Hp) (w : World) (hr : RdL w V L) (hx : RowAt w A 3 encHp xs) (lx : xs.length ≤ 100) :
    Calls Try.prog 24 #[vLnd V L, .int .i64 f, .int .i64 t, .int .i64 s, .slice A xs.length c, .int .i64 b] w (ProveTop (PrRoute L f t s xs b) w) := by
  have l0 := hr.l0
  have l3 := hr.l3
  cases he : (openE L [f, t] [s, b] 0 != 0) with
  | true =>
    have HO := Lib.hid (fun W b1 b2 (hW : Below w.heap.size w W) h0 h1 h2 h3 => open22_err V L f t s b b1 b2 W (hr.below hW) h0 h1 h2 h3 he)
    have hne : Hid (openE L [f, t] [s, b] 0 ≠ 0) := Lib.hid (by simpa using he)
    clear hr hx
    go_enter Try.func24, Try.ntmps24
    go_wp2_with (go_at_call 27; refine (HO.out _ (w.heap.size + 1) (w.heap.size + 1 + 1) (by (repeat (first | exact Below.refl _ _ | (with_reducible exact Hid.out (by assumption)) | refine below_al ?_ _ | refine below_dr ?_ | refine below_tr ?_ (by assumption) | refine below_tr ?_ (Bel.out (by assumption)) | refine below_tr ?_ (Bel.out (ov_bel _ _)) | refine below_set ?_ (by simp; try omega)))) (by (try go_simp); (repeat (simp only [↓IntWalk.iteOmega]; (try go_simp))); (try omega)) (by (try go_simp); (repeat (simp only [↓IntWalk.iteOmega]; (try go_simp))); (try omega)) (by (try go_simp); (repeat (simp only [↓IntWalk.iteOmega]; (try go_simp))); (try omega)) (by (try go_simp); (repeat (simp only [↓IntWalk.iteOmega]; (try go_simp))); (try omega))).mono ?_; rintro e w' ⟨rfl, hb⟩; obtain ⟨hc, hf⟩ := bcell hb; have hz := hb.size; try simp at hz)
    go_ret
    exact ⟨false, ⟨(fun h => by cases h), fun h => absurd h.1 hne.out⟩, rfl, by (repeat (first | exact Below.refl _ _ | (with_reducible exact Hid.out (by assumption)) | refine below_al ?_ _ | refine below_dr ?_ | refine below_tr ?_ (by assumption) | refine below_tr ?_ (Bel.out (by assumption)) | refine below_tr ?_ (Bel.out (ov_bel _ _)) | refine below_set ?_ (by simp; try omega)))⟩
  | false =>
    have he0 : openE L [f, t] [s, b] 0 = 0 := by simpa using he
    have HO := Lib.hid (fun W b1 b2 (hW : Below w.heap.size w W) h0 h1 h2 h3 => open22_ok V L f t s b b1 b2 W (hr.below hW) h0 h1 h2 h3 he0)
    obtain ⟨hf, hst, hti, _⟩ := openE_zero he0
    obtain ⟨f0, f1⟩ := hst f (by simp)
    obtain ⟨s0, s1⟩ := hti s (by simp)
    have ok := okay_of hf
    have hu1 := ok.u1
    have HX := Lib.hid hx
    have HZ := Lib.hid he0
    have HLd := Lib.hid (fun p (W : World) (hW : Kept w W) (hc : CellsAt W p (landCells V L)) => leads_any p V L f s A c xs W hc l0 l3 (hx.kept hW) lx s0 (by omega))
    have HSt := Lib.hid (fun p kb kc rs (W : World) (hw : RW W p kb kc V L rs) (hm : RM W L rs) (hW : Kept w W) (hok : ∀ x ∈ xs, HopOk L x) => stick_any p kb kc V L rs A c xs W hw hm ok (hx.kept hW) lx hok)
    have HOk := Lib.hid (fun q (h : leadsF L.st.length L.su.length f s xs = some q) => (leadsF_ok xs f s q h f0 f1 s0).1)
    clear he hr hx hst hti ok hf
    by_cases h12 : 12 < xs.length
    · clear HLd HSt HOk he0
      go_enter Try.func24, Try.ntmps24
      go_wp2_with fail
      refine (HO.out _ (w.heap.size + 1) (w.heap.size + 1 + 1) (by (repeat (first | exact Below.refl _ _ | (with_reducible exact Hid.out (by assumption)) | refine below_al ?_ _ | refine below_dr ?_ | refine below_tr ?_ (by assumption) | refine below_tr ?_ (Bel.out (by assumption)) | refine below_tr ?_ (Bel.out (ov_bel _ _)) | refine below_set ?_ (by simp; try omega)))) (by (try go_simp); (repeat (simp only [↓IntWalk.iteOmega]; (try go_simp))); (try omega)) (by (try go_simp); (repeat (simp only [↓IntWalk.iteOmega]; (try go_simp))); (try omega)) (by (try go_simp); (repeat (simp only [↓IntWalk.iteOmega]; (try go_simp))); (try omega)) (by (try go_simp); (repeat (simp only [↓IntWalk.iteOmega]; (try go_simp))); (try omega))).mono ?_
      rintro e w1 ⟨p, kb, kc, rs, rfl, hb, hrw, hmap⟩
      have hB := Lib.hid (show Below w.heap.size w w1 by (repeat (first | exact Below.refl _ _ | (with_reducible exact Hid.out (by assumption)) | refine below_al ?_ _ | refine below_dr ?_ | refine below_tr ?_ (by assumption) | refine below_tr ?_ (Bel.out (by assumption)) | refine below_tr ?_ (Bel.out (ov_bel _ _)) | refine below_set ?_ (by simp; try omega))))
      clear hmap hb hrw
      go_wp2
      go_ret
      exact ⟨false, ⟨(fun h => by cases h), fun h => absurd h.2.1 (by omega)⟩, rfl, hB.out⟩
    · go_enter Try.func24, Try.ntmps24
      clear he0
      go_wp2_with fail
      refine (HO.out _ (w.heap.size + 1) (w.heap.size + 1 + 1) (by (repeat (first | exact Below.refl _ _ | (with_reducible exact Hid.out (by assumption)) | refine below_al ?_ _ | refine below_dr ?_ | refine below_tr ?_ (by assumption) | refine below_tr ?_ (Bel.out (by assumption)) | refine below_tr ?_ (Bel.out (ov_bel _ _)) | refine below_set ?_ (by simp; try omega)))) (by (try go_simp); (repeat (simp only [↓IntWalk.iteOmega]; (try go_simp))); (try omega)) (by (try go_simp); (repeat (simp only [↓IntWalk.iteOmega]; (try go_simp))); (try omega)) (by (try go_simp); (repeat (simp only [↓IntWalk.iteOmega]; (try go_simp))); (try omega)) (by (try go_simp); (repeat (simp only [↓IntWalk.iteOmega]; (try go_simp))); (try omega))).mono ?_
      rintro e w1 ⟨p, kb, kc, rs, rfl, hb, hrw, hmap⟩
      have hB := Lib.hid (show Below w.heap.size w w1 by (repeat (first | exact Below.refl _ _ | (with_reducible exact Hid.out (by assumption)) | refine below_al ?_ _ | refine below_dr ?_ | refine below_tr ?_ (by assumption) | refine below_tr ?_ (Bel.out (by assumption)) | refine below_tr ?_ (Bel.out (ov_bel _ _)) | refine below_set ?_ (by simp; try omega))))
      have hrm := Lib.hid (rm_new (L := L) (fun k hk => (hmap k hk).2))
      have hge := Lib.hid (fun k hk => (hmap k hk).1)
      replace hrw := Lib.hid hrw
      clear hmap hb
      go_wp2_with fail
      refine (HLd.out p w1 (kept_of_below hB.out) hrw.out.cells).mono ?_
      rintro e w2 ⟨rfl, hb2⟩
      have hB2 := Lib.hid (below_tr hB.out hb2)
      have hkm2 := Lib.hid (KeepM.of_below (S := MS L rs) hrm.out.maps hb2)
      have hrm2 := Lib.hid (hrm.out.below hb2)
      clear hb2
      cases hld : leadsF L.st.length L.su.length f s xs with
      | none =>
        replace hld := Lib.hid hld
        simp only [leadsR]
        go_wp2
        go_ret
        exact ⟨false, ⟨(fun h => by cases h), fun h => by obtain ⟨_, _, q, hq, _⟩ := h; rw [hld.out] at hq; cases hq⟩, rfl, hB2.out⟩
      | some q =>
        have hok := Lib.hid (HOk.out q hld)
        have hend := leadsF_end xs f s q hld
        replace hld := Lib.hid hld
        obtain ⟨q1, q2⟩ := q
        simp only [leadsR]
        replace hend := Lib.hid hend
        cases hqt : (q1 != t) with
        | true =>
          have hqn : Hid (¬ q1 = t) := Lib.hid (by simpa using hqt)
          go_wp2
          go_ret
          exact ⟨false, ⟨(fun h => by cases h), fun h => by obtain ⟨_, _, q, hq, _⟩ := h; rw [hld.out] at hq; cases hq; exact absurd rfl hqn.out⟩, rfl, hB2.out⟩
        | false =>
          have hqe : Hid (q1 = t) := Lib.hid (by simpa using hqt)
          go_wp2_with fail
          refine (HSt.out p kb kc rs w2 (hrw.out.keep hkm2.out) hrm2.out (kept_of_below hB2.out) hok.out).mono ?_
          rintro e w3 ⟨o, hio, rfl, hkm3, hrm3⟩
          have hfin : Hid (Below w.heap.size w w3) := Lib.hid (KeepM.below hB.out (hkm2.out.trans hkm3) (fun i ⟨k, hk, e⟩ => by subst e; have := hge.out k hk; simp at this; omega))
          replace hio := Lib.hid hio
          clear hkm3 hrm3
          cases o with
          | some ik =>
            obtain ⟨i, k⟩ := ik
            simp only [stkV]
            go_wp2
            go_ret
            exact ⟨false, ⟨(fun h => by cases h), fun h => by obtain ⟨_, _, q, hq, hs, _⟩ := h; have := hs.unique hio.out; cases this⟩, rfl, hfin.out⟩
          | none =>
            simp only [stkV]
            have hfinal : ∀ b' : Bool, b' = decide (q2 ≤ b) → (b' = true ↔ PrRoute L f t s xs b) := fun b' hb' => by
              subst hb'
              rw [decide_eq_true_eq]
              refine ⟨fun h => ⟨HZ.out, by omega, q2, by rw [hld.out, hqe.out], hio.out, h⟩, fun h => ?_⟩
              obtain ⟨_, _, q, hq, _, hle⟩ := h
              rw [hld.out] at hq
              cases hq
              exact hle
            replace hfinal := Lib.hid hfinal
            by_cases hnil : 0 < xs.length
            · have hxl := List.getElem?_eq_getElem (show xs.length - 1 < xs.length by omega)
              obtain ⟨bb, o, hA, e0, e1, e2⟩ := (HX.out.kept (kept_of_below hfin.out)).hp hxl
              have hgl : xs.getLast? = some xs[xs.length - 1] := by rw [List.getLast?_eq_getElem?, hxl]
              have hxo := hok.out _ (List.getElem_mem (show xs.length - 1 < xs.length by omega))
              have hen := hend.out
              rw [hgl] at hen
              simp only at hen
              generalize xs[xs.length - 1] = x at *
              try simp only at hA
              subst hA
              obtain ⟨xa, xb, xh⟩ := x
              simp only at e0 e1 e2 hen
              obtain ⟨_, _, k0, k1⟩ := hxo
              simp only at k0 k1
              subst hen
              clear hgl hxl e0 e1
              go_wp2
              go_ret
              exact ⟨_, hfinal.out _ rfl, rfl, hfin.out⟩
            · have hxe : xs = [] := List.length_eq_zero_iff.1 (by omega)
              have hen : q2 = s := by rw [hend.out, hxe]; rfl
              subst hen
              clear hxe
              go_wp2
              go_ret
              exact ⟨_, hfinal.out _ rfl, rfl, hfin.out⟩
end Go.Proofs.Ytdfohielnfdmkaa

