/- Part KU of the proof: S14. -/
import Derived.Test.YtdfohielnfdmkaaGreatKM
import Derived.Test.YtdfohielnfdmkaaGreatKT
import Derived.Test.YtdfohielnfdmkaaGreatKP
set_option linter.unusedVariables false
set_option linter.unusedSimpArgs false
/- Walks: the reference of the relay: IsRoute, Stick, Arrives; routes written anew for the program. -/
set_option linter.unusedVariables false
set_option linter.unusedSimpArgs false
namespace Go.Proofs.YtdfohielnfdmkaaGreat
open Go.RowKit
attribute [local go_sem low] cell_alloc_ite frozen_alloc_ite ov_cell ov_frozen

theorem one_hp (x : Hp) : ∀ u ∈ encHp x, u.oneCell' = true := fun u hu => by simp [encHp] at hu; rcases hu with rfl | rfl | rfl <;> rfl
theorem info_hopZ : (Tryz.prog.info? 174).map (fun i => (i.zero, i.size, i.bytes)) = some (some (.agg #[.int .i64 0, .int .i64 0, .int .i64 0]), 3, 24) := by kernel_rfl
/-- A row is handed back. -/
def HopsMade (xs : List Hp) (w : World) (e : Ending) (w' : World) : Prop := ∃ A c, e = .returned (.slice A xs.length c) ∧ RowAt w' A 3 encHp xs ∧ xs.length ≤ c ∧ Below w.heap.size w w'

set_option maxRecDepth 100000 in
set_option maxHeartbeats 4000000 in
theorem lroute_any (A : Option Addr) (c : Nat) (xs : List Hp) (w : World) (hx : RowAt w A 3 encHp xs) (lx : xs.length ≤ 15) :
    Calls Tryz.prog 48 #[.slice A xs.length c] w (HopsMade xs w) := by
  have HX := Lib.hid hx
  clear hx
  obtain ⟨i0, hi0, hz0, hz1, hz2⟩ := info_parts info_hopZ
  go_enter Tryz.func48, Tryz.ntmps48
  go_wp2
  go_loopw [4, 3] (fun n v wr => ∃ m : Nat, m ≤ xs.length ∧ n = .int .i64 m ∧ wr.ownsRow w.heap.size 174 3 v (xs.take m).length ((xs.take m).flatMap encHp) ∧ Below w.heap.size w wr) (fun n _ _ => xs.length - (intOf n).toNat)
  case atStart => exact ⟨0, Nat.zero_le _, rfl, World.ownsRow_nil _ _ _ _, Below.refl _ _⟩
  case round =>
    obtain ⟨m, hm, rfl, hown, hbr⟩ := hrel
    by_cases hlt : m < xs.length
    · have hx := List.getElem?_eq_getElem hlt
      obtain ⟨b, o, hA, e0, e1, e2⟩ := (HX.out.kept (kept_of_below hbr)).hp hx
      have HXx := Lib.hid hx
      have hl := cell_lt e0
      generalize xs[m] = x at *
      simp only at hA hl
      subst hA
      have hct := Lib.hid (take_snoc' HXx.out)
      obtain ⟨xa, xb, xh⟩ := x
      simp only at e0 e1 e2
      replace hbr := Lib.hid hbr
      have hown0 := Lib.hid hown
      clear hx hown
      go_wp2
      refine (wpIn_wide (n := 9)).1 ?_
      refine wpIn_region_any (by kernel_rfl) ?_
      refine wpAnyIn_take (i := 0) (v := u3) rfl rfl (by kernel_rfl) (by kernel_rfl) (by kernel_rfl) (fun _ _ _ h => h) ⟨Or.inl ⟨by rfl, fun w => by go_simp⟩, fun _ => rfl⟩ ?_
      go_simp
      (refine wpAnyIn_midQ 1 17 3 (fun _ => trivial) rfl (fun _ _ _ _ h => callsIn_wide.2 h) (by kernel_rfl) (by rfl) rfl (by omega) (by kernel_rfl) (by kernel_rfl) (by kernel_rfl) (by kernel_rfl) (fun R hR => ?_); simp only [List.take_succ_cons, List.take_zero, List.drop_succ_cons, List.drop_zero]; (repeat (go_big_quiet_step (fail))); refine wpQuiet_nil ?_; refine hR.out _ ?_; clear hR R; intro W hW kk; have hc := hW.cells; have hf := hW.frozens; have hz := hW.size; (try simp at hz))
      have hbW : Below w.heap.size w W := below_tr (below_dr hbr.out) hW
      have hownW := owns_below (w := wr.drew) hown0.out hW
      have hln : (xs.take m).length = m := by rw [List.length_take]; omega
      have hsz := hbW.size
      have hlo := hownW.lt
      obtain ⟨v', w4, hrun, hown4, hgrow, _⟩ := run_append_own (P := Tryz.prog) (W.alloc (.cells #[.int .i64 xa, .int .i64 xb, .int .i64 xh] 174)) w.heap.size 96 96 174 i0 _ 3 24 Tryz.underlying96 hi0 hz0 hz1 hz2 rfl (by omega) _ _ _ (hownW.alloc _) ⟨W.heap.size, 0, none⟩ 1 1 (encHp ⟨xa, xb, xh⟩) rfl
        (cells_newB rfl rfl) (one_hp _) (by unfold maxLen; omega) (by omega) (by simp; omega)
      have hB4 : Below w.heap.size w w4 := Below.grown (w := W.alloc (.cells #[.int .i64 xa, .int .i64 xb, .int .i64 xh] 174)) (hbW.alloc hsz _) hgrow (by simp; omega) (fun k hk => (hlo k hk).1)
      replace hB4 := Lib.hid hB4
      replace hrun := Lib.hid hrun
      have hown5 : Hid (w4.ownsRow w.heap.size 174 3 v' (xs.take (m + 1)).length ((xs.take (m + 1)).flatMap encHp)) := Lib.hid (by rw [hct.out, List.length_append, List.flatMap_append]; simpa using hown4)
      clear hgrow hown4 hlo hownW hbW hW hown0 hc hf hct
      (refine wpAnyIn_wantW (i := 17) (by kernel_rfl) rfl (by kernel_rfl) (fun K hK => ?_); go_simp; (repeat (simp only [↓IntWalk.iteOmega]; (try go_simp))); (try go_bits); try (refine hK _ _ ?_; clear hK K))
      refine wpAnyIn_wantW (i := 18) (by kernel_rfl) rfl (by kernel_rfl) (fun K hK => ?_)
      refine oper_append_run (.tmp 11) (.tmp 28) 96 rfl _ _ rfl rfl _ _ hrun.out ?_
      refine hK _ _ ?_; clear hK K
      (refine wpAnyIn_wantW (i := 19) (by kernel_rfl) rfl (by kernel_rfl) (fun K hK => ?_); go_simp; (repeat (simp only [↓IntWalk.iteOmega]; (try go_simp))); (try go_bits); try (refine hK _ _ ?_; clear hK K))
      (refine wpAnyIn_done (by kernel_rfl) ?_ _)
      go_wp2
      go_roundw
      case rel => exact ⟨m + 1, by omega, by go_num, hown5.out, hB4.out⟩
      case measure => simp [intOf]; omega
    · obtain rfl : m = xs.length := by omega
      rw [List.take_length] at hown
      obtain ⟨A2, c2, hv, hrow, hlc, _⟩ := row_of_owns (k := 3) (enc := encHp) (fun _ => rfl) hown
      subst hv
      replace hrow := Lib.hid hrow
      replace hbr := Lib.hid hbr
      clear hown
      go_wp2
      go_ret
      exact ⟨A2, c2, rfl, hrow.out, hlc, hbr.out⟩

/-- When a route arrives. -/
def arrF (s : Int) (xs : List Hp) : Int := match xs.getLast? with | some x => x.h + 1 | none => s
def isRV (o : Option (Int × Int)) (l : Nat) : Value := match o with
  | some p => .tuple #[.int .i64 p.1, .bool (decide ((l : Int) ≤ 12))]
  | none => .tuple #[.int .i64 0, .bool false]
def IsI (w : World) (cs : List Value) (n E : Nat) (f s : Int) (xs : List Hp) (i a h : Value) (wr : World) : Prop :=
  ∃ (j : Nat) (at_ hour : Int), j ≤ xs.length ∧ i = .int .i64 j ∧ a = .int .i64 at_ ∧ h = .int .i64 hour ∧ leadsF n E f s (xs.take j) = some (at_, hour) ∧ 0 ≤ hour ∧ hour ≤ 100 ∧ CellsAt wr w.heap.size cs ∧ Below w.heap.size w wr

set_option maxRecDepth 100000 in
set_option maxHeartbeats 8000000 in
theorem risRoute_any (V : LV) (L : Lnd) (f s : Int) (A : Option Addr) (c : Nat) (xs : List Hp) (w : World) (hr : RdL w V L) (hx : RowAt w A 3 encHp xs) (lx : xs.length ≤ 100) (hs0 : 0 ≤ s) (hs1 : s ≤ 100) :
    Calls Tryz.prog 39 #[vLnd V L, .int .i64 f, .int .i64 s, .slice A xs.length c] w fun e w' => e = .returned (isRV (leadsF L.st.length L.su.length f s xs) xs.length) ∧ Below w.heap.size w w' := by
  have HE := Lib.hid (fun W => rend_any V L W hr.l3)
  have HI := Lib.hid (fun n lo hi W => in_any n lo hi W)
  have HX := Lib.hid hx
  have l0 := hr.l0
  have l3 := hr.l3
  obtain ⟨a0, c0, a1, c1, a2, c2, a3, c3⟩ := V
  simp only [vLnd] at *
  clear hr hx
  go_enter Tryz.func39, Tryz.ntmps39
  go_wp2
  go_loopw [12, 10, 11] (fun i a h wr => IsI w [.slice a0 L.st.length c0, .slice a1 L.ri.length c1, .slice a2 L.ca.length c2, .slice a3 L.su.length c3] L.st.length L.su.length f s xs i a h wr) (fun i _ _ _ => xs.length - (intOf i).toNat)
  case atStart => exact ⟨0, f, s, Nat.zero_le _, rfl, rfl, rfl, rfl, hs0, hs1, cells4 (by (try go_simp); (repeat (simp only [↓IntWalk.iteOmega]; (try go_simp))); (try omega)) (by (try go_simp); (repeat (simp only [↓IntWalk.iteOmega]; (try go_simp))); (try omega)) (by (try go_simp); (repeat (simp only [↓IntWalk.iteOmega]; (try go_simp))); (try omega)) (by (try go_simp); (repeat (simp only [↓IntWalk.iteOmega]; (try go_simp))); (try omega)), by (repeat (first | exact Below.refl _ _ | (with_reducible exact Hid.out (by assumption)) | refine below_al ?_ _ | refine below_dr ?_ | refine below_tr ?_ (by assumption) | refine below_tr ?_ (Bel.out (by assumption)) | refine below_tr ?_ (Bel.out (ov_bel _ _)) | refine below_set ?_ (by simp; try omega)))⟩
  case round =>
    obtain ⟨j, at_, hour, hj, rfl, rfl, rfl, hld, hh0, hh1, hbox, hb⟩ := hrel
    have x0 := hbox 0 _ rfl
    have x1 := hbox 1 _ rfl
    have x2 := hbox 2 _ rfl
    have x3 := hbox 3 _ rfl
    have hlw := cell_lt x0
    simp only at hlw
    replace hbox := Lib.hid hbox
    by_cases hlt : j < xs.length
    · have hxj := List.getElem?_eq_getElem hlt
      obtain ⟨b, o, hA, e0, e1, e2⟩ := (HX.out.kept (kept_of_below hb)).hp hxj
      have hl := cell_lt e0
      have hct : Hid (xs.take (j + 1) = xs.take j ++ [xs[j]]) := Lib.hid (List.take_succ_eq_append_getElem hlt)
      generalize xs[j] = x at *
      simp only at hA hl
      subst hA
      obtain ⟨xa, xb, xh⟩ := x
      simp only at e0 e1 e2
      have hst : leadsF L.st.length L.su.length f s (xs.take (j + 1)) = if (decide (xa = at_) && inR xb 0 ((L.st.length : Int) - 1) && inR xh hour ((L.su.length : Int) - 1)) = true then some (xb, xh + 1) else none := by
        rw [hct.out, leadsF_snoc, hld]; rfl
      replace hst := Lib.hid hst
      replace hb := Lib.hid hb
      clear hxj hct hld
      have hz2 : ¬ w.heap.size = wr.heap.size := by omega
      cases q0 : (xa != at_) with
      | true =>
        have q0' : ¬ xa = at_ := by simpa using q0
        replace q0' := Lib.hid q0'
        have hno : Hid (leadsF L.st.length L.su.length f s xs = none) := Lib.hid (leadsF_take_none (j := j + 1) (by rw [hst.out, if_neg (by simp [q0'.out])]))
        go_wp2
        (refine wp_region_ov (by kernel_rfl) (by kernel_rfl) (fun R hR => ?_); (repeat (go_big_quiet_step ((first | (go_at_call 44; exact calls_ov (HE.out _)) | (go_at_call 49; exact calls_ov_same (HI.out _ _ _ _)))))); refine wpQuiet_nil ?_; refine hR.out _ ?_; clear hR R; intro W hW; have hc := hW.cells; have hf := hW.frozens; have hz := hW.size; (try simp at hz))
        have hb2 := Lib.hid (below_tr (below_tr hb.out (below_al (Below.refl _ _) _)) hW)
        clear hc hf hz hW
        go_wp2
        go_ret2
        exact ⟨by rw [hno.out]; rfl, hb2.out⟩
      | false =>
        have q0' : xa = at_ := by simpa using q0
        replace q0' := Lib.hid q0'
        cases q1 : inR xb 0 ((L.st.length : Int) - 1) with
        | false =>
          have hno : Hid (leadsF L.st.length L.su.length f s xs = none) := Lib.hid (leadsF_take_none (j := j + 1) (by rw [hst.out, if_neg (by simp [q1])]))
          go_wp2
          (refine wp_region_ov (by kernel_rfl) (by kernel_rfl) (fun R hR => ?_); (repeat (go_big_quiet_step ((first | (go_at_call 44; exact calls_ov (HE.out _)) | (go_at_call 49; exact calls_ov_same (HI.out _ _ _ _)))))); refine wpQuiet_nil ?_; refine hR.out _ ?_; clear hR R; intro W hW; have hc := hW.cells; have hf := hW.frozens; have hz := hW.size; (try simp at hz))
          have hb2 := Lib.hid (below_tr (below_tr hb.out (below_al (Below.refl _ _) _)) hW)
          clear hc hf hz hW
          go_wp2
          go_ret2
          exact ⟨by rw [hno.out]; rfl, hb2.out⟩
        | true =>
          cases q2 : inR xh hour ((L.su.length : Int) - 1) with
          | false =>
            have hno : Hid (leadsF L.st.length L.su.length f s xs = none) := Lib.hid (leadsF_take_none (j := j + 1) (by rw [hst.out, if_neg (by simp [q2])]))
            go_wp2
            (refine wp_region_ov (by kernel_rfl) (by kernel_rfl) (fun R hR => ?_); (repeat (go_big_quiet_step ((first | (go_at_call 44; exact calls_ov (HE.out _)) | (go_at_call 49; exact calls_ov_same (HI.out _ _ _ _)))))); refine wpQuiet_nil ?_; refine hR.out _ ?_; clear hR R; intro W hW; have hc := hW.cells; have hf := hW.frozens; have hz := hW.size; (try simp at hz))
            have hb2 := Lib.hid (below_tr (below_tr hb.out (below_al (Below.refl _ _) _)) hW)
            clear hc hf hz hW
            go_wp2
            go_ret2
            exact ⟨by rw [hno.out]; rfl, hb2.out⟩
          | true =>
            have hyes : Hid (leadsF L.st.length L.su.length f s (xs.take (j + 1)) = some (xb, xh + 1)) := Lib.hid (by rw [hst.out, if_pos (by simp [q0'.out, q1, q2])])
            obtain ⟨r1, r2⟩ := inR_true.1 q2
            go_wp2
            (refine wp_region_ov (by kernel_rfl) (by kernel_rfl) (fun R hR => ?_); (repeat (go_big_quiet_step ((first | (go_at_call 44; exact calls_ov (HE.out _)) | (go_at_call 49; exact calls_ov_same (HI.out _ _ _ _)))))); refine wpQuiet_nil ?_; refine hR.out _ ?_; clear hR R; intro W hW; have hc := hW.cells; have hf := hW.frozens; have hz := hW.size; (try simp at hz))
            have hbW : Below wr.heap.size wr W := by (repeat (first | exact Below.refl _ _ | (with_reducible exact Hid.out (by assumption)) | refine below_al ?_ _ | refine below_dr ?_ | refine below_tr ?_ (by assumption) | refine below_tr ?_ (Bel.out (by assumption)) | refine below_tr ?_ (Bel.out (ov_bel _ _)) | refine below_set ?_ (by simp; try omega)))
            have hb2 := Lib.hid (below_tr hb.out hbW)
            have hbox2 := Lib.hid (hbox.out.kept (kept_of_below hbW))
            have u1 : W.cell? ⟨wr.heap.size, 1, none⟩ = some (.int .i64 xb) := (by (try go_simp); (repeat (simp only [↓IntWalk.iteOmega]; (try go_simp))); (try omega))
            have u2 : W.cell? ⟨wr.heap.size, 2, none⟩ = some (.int .i64 xh) := (by (try go_simp); (repeat (simp only [↓IntWalk.iteOmega]; (try go_simp))); (try omega))
            have hlW := cell_lt u1
            simp only at hlW
            clear hc hW hf hz hbW q0 q1 q2 e0 e1 e2 x0 x1 x2 x3
            go_wp2
            obtain ⟨W1, rfl⟩ : ∃ W1, W1 = W := ⟨W, rfl⟩
            (refine wp_region_ov (by kernel_rfl) (by kernel_rfl) (fun R hR => ?_); (repeat (go_big_quiet_step (fail))); refine wpQuiet_nil ?_; refine hR.out _ ?_; clear hR R; intro W hW; have hc := hW.cells; have hf := hW.frozens; have hz := hW.size; (try simp at hz))
            have hb3 := Lib.hid (below_tr hb2.out hW)
            have hbox3 := Lib.hid (hbox2.out.kept (kept_of_below hW))
            clear hc hW hf hz u1 u2
            go_wp2
            go_roundw
            case rel => exact ⟨j + 1, xb, xh + 1, by omega, by go_num, rfl, rfl, hyes.out, by omega, by omega, hbox3.out, hb3.out⟩
            case measure => simp [intOf]; omega
    · obtain rfl : j = xs.length := by omega
      rw [List.take_length] at hld
      replace hld := Lib.hid hld
      replace hb := Lib.hid hb
      go_wp2
      go_ret2
      exact ⟨by rw [hld.out]; rfl, hb.out⟩

def rstkV (o : Option (Nat × Nat)) : Value := match o with
  | none => .tuple #[.int .i64 (-1), .int .i64 0]
  | some (i, k) => .tuple #[.int .i64 i, .int .i64 k]
def RStk (L : Lnd) (xs : List Hp) (w : World) (e : Ending) (w' : World) : Prop := ∃ o, IsStk L.ca.length (hopB L) xs o ∧ e = .returned (rstkV o) ∧ Below w.heap.size w w'
def RsI (w : World) (cs : List Value) (L : Lnd) (xs : List Hp) (i : Value) (wr : World) : Prop :=
  ∃ j : Nat, j ≤ xs.length ∧ i = .int .i64 j ∧ (∀ (i' : Nat) (x' : Hp), i' < j → xs[i']? = some x' → ∀ k', k' < L.ca.length → hopB L x' k' = true) ∧ CellsAt wr w.heap.size cs ∧ Below w.heap.size w wr
def RsJ (w : World) (cs : List Value) (L : Lnd) (x : Hp) (i : Value) (wr : World) : Prop :=
  ∃ k : Nat, k ≤ L.ca.length ∧ i = .int .i64 k ∧ (∀ k', k' < k → hopB L x k' = true) ∧ CellsAt wr w.heap.size cs ∧ Below w.heap.size w wr

set_option maxRecDepth 100000 in
set_option maxHeartbeats 8000000 in
theorem rstick_any (V : LV) (L : Lnd) (A : Option Addr) (c : Nat) (xs : List Hp) (w : World) (hr : RdL w V L) (ok : Okay L) (hx : RowAt w A 3 encHp xs) (lx : xs.length ≤ 100) (hok : ∀ x ∈ xs, HopOk L x) :
    Calls Tryz.prog 50 #[vLnd V L, .slice A xs.length c] w (RStk L xs w) := by
  have HC := Lib.hid (fun (W : World) (hW : Below w.heap.size w W) (i j k h : Nat) li lj lk lh => rcan_any V L i j k h W (hr.below hW) ok li lj lk lh)
  have HX := Lib.hid hx
  have HOK := Lib.hid hok
  have l2 := hr.l2
  obtain ⟨a0, c0, a1, c1, a2, c2, a3, c3⟩ := V
  simp only [vLnd] at *
  clear hr hx hok ok
  go_enter Tryz.func50, Tryz.ntmps50
  go_wp2
  go_loopw [6] (fun i wr => RsI w [.slice a0 L.st.length c0, .slice a1 L.ri.length c1, .slice a2 L.ca.length c2, .slice a3 L.su.length c3] L xs i wr) (fun i _ => xs.length - (intOf i).toNat)
  case atStart => exact ⟨0, Nat.zero_le _, rfl, fun i' x' h => by omega, cells4 (by (try go_simp); (repeat (simp only [↓IntWalk.iteOmega]; (try go_simp))); (try omega)) (by (try go_simp); (repeat (simp only [↓IntWalk.iteOmega]; (try go_simp))); (try omega)) (by (try go_simp); (repeat (simp only [↓IntWalk.iteOmega]; (try go_simp))); (try omega)) (by (try go_simp); (repeat (simp only [↓IntWalk.iteOmega]; (try go_simp))); (try omega)), by (repeat (first | exact Below.refl _ _ | (with_reducible exact Hid.out (by assumption)) | refine below_al ?_ _ | refine below_dr ?_ | refine below_tr ?_ (by assumption) | refine below_tr ?_ (Bel.out (by assumption)) | refine below_tr ?_ (Bel.out (ov_bel _ _)) | refine below_set ?_ (by simp; try omega)))⟩
  case round =>
    obtain ⟨j, hj, rfl, hall, hbox, hb⟩ := hrel
    replace hall := Lib.hid hall
    by_cases hlt : j < xs.length
    · have hxj := List.getElem?_eq_getElem hlt
      have hrowj := Lib.hid (fun W (hW : Kept w W) => (HX.out.kept hW).hp hxj)
      have hxo := HOK.out _ (List.getElem_mem hlt)
      generalize xs[j] = x at *
      have HXj := Lib.hid hxj
      obtain ⟨xa, xb, xh⟩ := x
      obtain ⟨⟨a0', a1'⟩, ⟨b0, b1⟩, h0, h1⟩ := hxo
      simp only at a0' a1' b0 b1 h0 h1
      obtain ⟨xa, rfl⟩ := Int.eq_ofNat_of_zero_le a0'
      obtain ⟨xb, rfl⟩ := Int.eq_ofNat_of_zero_le b0
      obtain ⟨xh, rfl⟩ := Int.eq_ofNat_of_zero_le h0
      replace hbox := Lib.hid hbox
      replace hb := Lib.hid hb
      clear hxj
      go_wp2
      obtain ⟨wo, rfl⟩ : ∃ wo, wo = wr := ⟨wr, rfl⟩
      go_loopw [7] (fun k wi => RsJ w [.slice a0 L.st.length c0, .slice a1 L.ri.length c1, .slice a2 L.ca.length c2, .slice a3 L.su.length c3] L ⟨xa, xb, xh⟩ k wi) (fun k _ => L.ca.length - (intOf k).toNat)
      case atStart => exact ⟨0, Nat.zero_le _, rfl, fun k' h => by omega, hbox.out, hb.out⟩
      case round =>
        obtain ⟨k, hk, rfl, hpre, hbox2, hb2⟩ := hrel
        have x0 := hbox2 0 _ rfl
        have x1 := hbox2 1 _ rfl
        have x2 := hbox2 2 _ rfl
        have x3 := hbox2 3 _ rfl
        have hlw := cell_lt x0
        simp only at hlw
        replace hpre := Lib.hid hpre
        by_cases hlk : k < L.ca.length
        · obtain ⟨b, o, hA, e0, e1, e2⟩ := hrowj.out _ (kept_of_below hb2)
          have hl := cell_lt e0
          simp only at hA hl
          subst hA
          replace hbox2 := Lib.hid hbox2
          replace hb2 := Lib.hid hb2
          have hsh : Hid (hopB L ⟨xa, xb, xh⟩ k = canN L xa xb k xh) := Lib.hid rfl
          have HF := Lib.hid (fun W (hW : Below w.heap.size w W) => HC.out W hW xa xb k xh (by omega) (by omega) hlk (by omega))
          cases hcn : canN L xa xb k xh with
          | true =>
            rw [hcn] at HF
            have hh : Hid (hopB L ⟨xa, xb, xh⟩ k = true) := Lib.hid (by rw [hsh.out, hcn])
            go_wp2
            (refine wp_region_ov (by kernel_rfl) (by kernel_rfl) (fun R hR => ?_); (repeat (go_big_quiet_step ((first | (go_at_call 55; exact calls_ov (HF.out _ (below_tr hb2.out (ov_bel _ _)))))))); refine wpQuiet_nil ?_; refine hR.out _ ?_; clear hR R; intro W hW; have hc := hW.cells; have hf := hW.frozens; have hz := hW.size; (try simp at hz))
            have hb3 := Lib.hid (below_tr hb2.out hW)
            have hbox3 := Lib.hid (hbox2.out.kept (kept_of_below hW))
            clear hc hW hf hz x0 x1 x2 x3 e0 e1 e2
            go_wp2
            go_roundw
            case rel => exact ⟨k + 1, by omega, by go_num, fun k' h => by by_cases e : k' = k; subst e; exact hh.out; exact hpre.out k' (by omega), hbox3.out, hb3.out⟩
            case measure => simp [intOf]; omega
          | false =>
            rw [hcn] at HF
            have hh : Hid (hopB L ⟨xa, xb, xh⟩ k = false) := Lib.hid (by rw [hsh.out, hcn])
            go_wp2
            (refine wp_region_ov (by kernel_rfl) (by kernel_rfl) (fun R hR => ?_); (repeat (go_big_quiet_step ((first | (go_at_call 55; exact calls_ov (HF.out _ (below_tr hb2.out (ov_bel _ _)))))))); refine wpQuiet_nil ?_; refine hR.out _ ?_; clear hR R; intro W hW; have hc := hW.cells; have hf := hW.frozens; have hz := hW.size; (try simp at hz))
            have hb3 := Lib.hid (below_tr hb2.out hW)
            clear hc hW hf hz x0 x1 x2 x3 e0 e1 e2
            go_wp2
            go_ret2
            exact ⟨some (j, k), ⟨_, HXj.out, hlk, hh.out, hpre.out, hall.out⟩, rfl, hb3.out⟩
        · obtain rfl : k = L.ca.length := by omega
          replace hbox2 := Lib.hid hbox2
          replace hb2 := Lib.hid hb2
          go_wp2
          clear x0 x1 x2 x3
          go_roundw
          case rel => exact ⟨j + 1, by omega, by go_num, fun i' x' hi hx' k' hk' => by by_cases e : i' = j; subst e; rw [HXj.out] at hx'; cases hx'; exact hpre.out k' hk'; exact hall.out i' x' (by omega) hx' k' hk', hbox2.out, hb2.out⟩
          case measure => simp [intOf]; omega
    · obtain rfl : j = xs.length := by omega
      replace hb := Lib.hid hb
      replace hbox := Lib.hid hbox
      go_wp2
      go_ret2
      exact ⟨none, fun i x hx k hk => hall.out i x (List.getElem?_eq_some_iff.1 hx).1 hx k hk, rfl, hb.out⟩
set_option maxHeartbeats 2000000 in
theorem arrives_any (s : Int) (A : Option Addr) (c : Nat) (xs : List Hp) (w : World) (hx : RowAt w A 3 encHp xs) (lx : xs.length ≤ 100) (hb : ∀ x ∈ xs, 0 ≤ x.h ∧ x.h ≤ 100) :
    Calls Tryz.prog 40 #[.int .i64 s, .slice A xs.length c] w fun e w' => e = .returned (.int .i64 (arrF s xs)) ∧ w = w' := by
  by_cases hnil : 0 < xs.length
  · have hxl := List.getElem?_eq_getElem (show xs.length - 1 < xs.length by omega)
    obtain ⟨bb, o, hA, e0, e1, e2⟩ := hx.hp hxl
    have hgl : xs.getLast? = some xs[xs.length - 1] := by rw [List.getLast?_eq_getElem?, hxl]
    have hxo := hb _ (List.getElem_mem (show xs.length - 1 < xs.length by omega))
    have hen : Hid (arrF s xs = xs[xs.length - 1].h + 1) := Lib.hid (by unfold arrF; rw [hgl])
    generalize xs[xs.length - 1] = x at *
    try simp only at hA
    subst hA
    obtain ⟨xa, xb, xh⟩ := x
    simp only at e0 e1 e2 hen hxo
    obtain ⟨k0, k1⟩ := hxo
    have hne : ((xs.length : Int) == 0) = false := by rw [beq_eq_false_iff_ne]; omega
    clear hgl hxl e0 e1 hb hx
    go_enter Tryz.func40, Tryz.ntmps40
    go_wp2
    go_ret
    exact ⟨by rw [hen.out]; rfl, rfl⟩
  · have hxe : xs = [] := List.length_eq_zero_iff.1 (by omega)
    subst hxe
    clear hx hb
    go_enter Tryz.func40, Tryz.ntmps40
    go_wp2
    go_ret
    exact ⟨rfl, rfl⟩
end Go.Proofs.YtdfohielnfdmkaaGreat

