/- Part KJ of the proof: R2 · R3 · R4 · R5. -/
import Derived.Deep.RegionLaw
import Derived.Laws.Bits64b
import Derived.Test.YtdfohielnfdmkaaKG
set_option linter.unusedVariables false
set_option linter.unusedSimpArgs false
/- Walks: package relay: a land at work: its end, its stations, the smaller of two numbers. -/
set_option linter.unusedVariables false
set_option linter.unusedSimpArgs false
namespace Go.Proofs.Ytdfohielnfdmkaa
open Go.RowKit
attribute [local go_sem low] cell_alloc_ite frozen_alloc_ite ov_cell ov_frozen

/-- The first four cells of a land at work. -/
abbrev landCells (V : LV) (L : Lnd) : List Value := [.slice V.a0 L.st.length V.c0, .slice V.a1 L.ri.length V.c1, .slice V.a2 L.ca.length V.c2, .slice V.a3 L.su.length V.c3]

set_option maxHeartbeats 400000 in
theorem end_any (p : Nat) (V : LV) (L : Lnd) (w : World) (h : CellsAt w p (landCells V L)) (h3 : L.su.length ≤ 15) :
    Calls Try.prog 31 #[.pointer (some ⟨p, 0, none⟩)] w fun e w' => e = .returned (.int .i64 L.su.length) ∧ w = w' := by
  have p3 := h 3 _ rfl
  clear h
  go_enter Try.func31, Try.ntmps31
  go_wp2
  go_ret
  exact ⟨rfl, rfl⟩
set_option maxHeartbeats 400000 in
theorem station_any (p : Nat) (V : LV) (L : Lnd) (x : Int) (w : World) (h : CellsAt w p (landCells V L)) (h0 : L.st.length ≤ 9) :
    Calls Try.prog 45 #[.pointer (some ⟨p, 0, none⟩), .int .i64 x] w fun e w' => e = .returned (.bool (inR x 0 ((L.st.length : Int) - 1))) ∧ Below w.heap.size w w' := by
  have p0 := h 0 _ rfl
  clear h
  go_enter Try.func45, Try.ntmps45
  go_wp2_with (go_at_call 41; refine (rwithin_any _ _ _ _).mono ?_; rintro e w' ⟨rfl, rfl⟩)
  go_ret
  exact ⟨rfl, Below.refl _ _⟩
set_option maxHeartbeats 400000 in
theorem time_any (p bx : Nat) (V : LV) (L : Lnd) (x : Int) (w : World) (h : CellsAt w p (landCells V L)) (hb : w.cell? ⟨bx, 0, none⟩ = some (.pointer (some ⟨p, 0, none⟩))) (h3 : L.su.length ≤ 15) :
    Calls Try.prog 46 #[.int .i64 x, .pointer (some ⟨bx, 0, none⟩)] w fun e w' => e = .returned (.bool (inR x 0 L.su.length)) ∧ Below w.heap.size w w' := by
  have HE := Lib.hid (end_any p V L w h h3)
  clear h
  go_enter Try.func46, Try.ntmps46
  go_wp2_with (first | (go_at_call 31; refine (HE.out).mono ?_; rintro e w' ⟨rfl, rfl⟩) | (go_at_call 41; refine (rwithin_any _ _ _ _).mono ?_; rintro e w' ⟨rfl, rfl⟩))
  go_ret
  exact ⟨rfl, Below.refl _ _⟩

def minI (a b : Int) : Int := if b < a then b else a
set_option maxHeartbeats 1000000 in
theorem min2_any (b c : Nat) (x y : Int) (w : World) (h0 : w.cell? ⟨b, 0, none⟩ = some (.int .i64 x)) (h1 : w.cell? ⟨b, 1, none⟩ = some (.int .i64 y)) (hc : 2 ≤ c) :
    Calls Try.prog 67 #[.slice (some ⟨b, 0, none⟩) 2 c] w fun e w' => e = .returned (.int .i64 (minI x y)) ∧ w = w' := by
  go_enter Try.func67, Try.ntmps67
  go_wp2
  go_loop [3, 4] (fun m i => ∃ k : Nat, (k = 1 ∧ m = .int .i64 x ∨ k = 2 ∧ m = .int .i64 (minI x y)) ∧ i = .int .i64 k) (fun _ i => 2 - (intOf i).toNat)
  case atStart => exact ⟨1, .inl ⟨rfl, rfl⟩, rfl⟩
  case round =>
    obtain ⟨k, hk, rfl⟩ := hrel
    rcases hk with ⟨rfl, rfl⟩ | ⟨rfl, rfl⟩
    · by_cases hlt : y < x
      · have hm : minI x y = y := by unfold minI; rw [if_pos hlt]
        replace hm := Lib.hid hm
        go_wp2
        go_round
        case rel => exact ⟨2, .inr ⟨rfl, by rw [hm.out]⟩, rfl⟩
        case measure => simp [intOf]
      · have hm : minI x y = x := by unfold minI; rw [if_neg hlt]
        replace hm := Lib.hid hm
        go_wp2
        go_round
        case rel => exact ⟨2, .inr ⟨rfl, by rw [hm.out]⟩, rfl⟩
        case measure => simp [intOf]
    · go_wp2
      go_ret
      exact ⟨rfl, rfl⟩
set_option maxHeartbeats 1000000 in
theorem small2_any (b c : Nat) (x y : Int) (w : World) (h0 : w.cell? ⟨b, 0, none⟩ = some (.int .i64 x)) (h1 : w.cell? ⟨b, 1, none⟩ = some (.int .i64 y)) (hc : 2 ≤ c) :
    Calls Try.prog 47 #[.slice (some ⟨b, 0, none⟩) 2 c] w fun e w' => e = .returned (.int .i64 (minI x y)) ∧ w = w' := by
  have HM := Lib.hid (min2_any b c x y w h0 h1 hc)
  clear h0 h1
  go_enter Try.func47, Try.ntmps47
  go_wp2_with (go_at_call 67; refine (HM.out).mono ?_; rintro e w' ⟨rfl, rfl⟩)
  go_ret
  exact ⟨rfl, rfl⟩
end Go.Proofs.Ytdfohielnfdmkaa

/- Walks: package relay: a land is taken to work. -/
set_option linter.unusedVariables false
set_option linter.unusedSimpArgs false
namespace Go.Proofs.Ytdfohielnfdmkaa
open Go.RowKit
attribute [local go_sem low] cell_alloc_ite frozen_alloc_ite ov_cell ov_frozen

/-- An append to a slice of one's own, as one step of a region that draws its order. -/
theorem step_append_own {P : Program} {ops : Array Oper} {o : Oper} {a : Act} {w : World} {K : Act → World → Prop} {Q : Exit → Act → World → Prop} {E : Prop}
    (hg : o.guard = none) (s x : Operand) (t : TypeId) (ho : o.op = Op.call { callee := Callee.builtin Builtin.append, args := #[s, x], argTypes := #[t, t] })
    (base : Nat) (e : TypeId) (i : TypeInfo) (z : Value) (size bytes : Nat) (ht : P.underlying t = some (.slice e)) (hi : P.info? e = some i) (hz : i.zero = some z)
    (hsize : i.size = size) (hby : i.bytes = bytes) (hzs : z.cells.size = size) (hsz : 0 < size)
    (v : Value) (n : Nat) (xs : List Value) (hs : a.eval s = v) (hown : w.ownsRow base e size v n xs)
    (ad : Addr) (m c : Nat) (news : List Value) (hx : a.eval x = .slice (some ad) m c) (hl : news.length = m * size) (hnews : ∀ j u, news[j]? = some u → w.cell? (ad.add j) = some u) (h1 : ∀ u ∈ news, u.oneCell' = true)
    (h63 : n + m ≤ maxLen) (hbytes : (n + m) * bytes ≤ 140737488355328) (hbase : base ≤ w.heap.size)
    (hK : ∀ v' w', w'.ownsRow base e size v' (n + m) (xs ++ news) → w.grownBy w' v.ownBlock → K (a.put o.dst v') w') :
    if Region.wanted o (yielded ops a.tmps) = true then Oper.wp P o a w K Q else E := by
  have hw : Region.wanted o (yielded ops a.tmps) = true := by simp [Region.wanted, hg]
  rw [if_pos hw]
  exact wp_append_own w s x t ho base e i z size bytes ht hi hz hsize hby hzs hsz v n xs hs hown ad m c news hx hl hnews h1 h63 hbytes hbase fun v' w' h2 h3 _ => hK v' w' h2 h3

theorem cell_alloc_map (w : World) (es : Array MapEntry) (c n i : Nat) : (w.alloc (.map es c)).cell? ⟨n, i, none⟩ = w.cell? ⟨n, i, none⟩ := by
  by_cases h : n = w.heap.size
  · subst h
    unfold World.cell?
    rw [World.alloc_heap_new, Array.getElem?_eq_none (Nat.le_refl _)]
  · exact World.cell?_alloc_old w _ _ h
theorem frozen_alloc_map (w : World) (es : Array MapEntry) (c n i : Nat) : (w.alloc (.map es c)).frozen? ⟨n, i, none⟩ = if n = w.heap.size then newFrozen (w.alloc (.map es c)) n i else w.frozen? ⟨n, i, none⟩ := by
  split
  · rfl
  · rename_i h; exact World.frozen?_alloc_old w _ _ h
attribute [local go_sem low] cell_alloc_map frozen_alloc_map
theorem cellsNew1 {w : World} {b : Nat} {v : Value} (h : w.cell? ⟨b, 0, none⟩ = some v) : ∀ (j : Nat) (u : Value), [v][j]? = some u → w.cell? ((⟨b, 0, none⟩ : Addr).add j) = some u := by
  intro j u hu
  match j, hu with
  | 0, hu =>
    cases hu
    have : (⟨b, 0, none⟩ : Addr).add 0 = ⟨b, 0, none⟩ := by simp [Addr.add]
    rw [this]; exact h
theorem grown_cell {w w' : World} {v : Value} (hg : w.grownBy w' v.ownBlock) {base : Nat} (hlo : ∀ k, v.ownBlock = some k → base ≤ k) {b o : Nat} {x : Value} (h : w.cell? ⟨b, o, none⟩ = some x) (hb : b < base) : w'.cell? ⟨b, o, none⟩ = some x :=
  hg.cell h (fun e => by have := hlo _ e.symm; simp only at this; omega)
theorem grown_frozen {w w' : World} {v : Value} (hg : w.grownBy w' v.ownBlock) {base : Nat} (hlo : ∀ k, v.ownBlock = some k → base ≤ k) {b o : Nat} (h : w.frozen? ⟨b, o, none⟩ = false) (hl : b < w.heap.size) (hb : b < base) : w'.frozen? ⟨b, o, none⟩ = false :=
  (World.frozen?_of_block (hg.block b hl (fun e => by have := hlo _ e.symm; omega))).trans h

/-- The error of stations, hours and a case of a land. -/
def openE (L : Lnd) (xs ys : List Int) (k : Int) : Int :=
  if faultL L ≠ 0 then faultL L else if !xs.all (fun x => inR x 0 ((L.st.length : Int) - 1)) || !ys.all (fun x => inR x 0 L.su.length) || !inR k 0 ((L.ca.length : Int) - 1) then 2 else 0

set_option maxRecDepth 100000 in
set_option maxHeartbeats 4000000 in
theorem open_fault (V : LV) (L : Lnd) (A B : Option Addr) (ca cb : Nat) (xs ys : List Int) (k : Int) (w : World) (hr : RdL w V L) (hf : (faultL L != 0) = true) :
    Calls Try.prog 27 #[vLnd V L, .slice A xs.length ca, .slice B ys.length cb, .int .i64 k] w fun e w' => e = .returned (.tuple #[.pointer none, .int .i64 (openE L xs ys k)]) ∧ Below w.heap.size w w' := by
  have HE : Hid (openE L xs ys k = faultL L) := Lib.hid (by unfold openE; rw [if_pos (by simpa using hf)])
  have HC := Lib.hid (fun W (hW : Below w.heap.size w W) => check_any V L W (hr.below hW))
  clear hr
  go_enter Try.func27, Try.ntmps27
  go_wp2_with (go_at_call 44; refine (HC.out _ (by (repeat (first | exact Below.refl _ _ | (with_reducible exact Hid.out (by assumption)) | refine below_al ?_ _ | refine below_dr ?_ | refine below_tr ?_ (by assumption) | refine below_tr ?_ (Bel.out (by assumption)) | refine below_tr ?_ (Bel.out (ov_bel _ _)) | refine below_set ?_ (by simp; try omega))))).mono ?_; rintro e w' ⟨rfl, hb⟩; obtain ⟨hc, hf⟩ := bcell hb; have hz := hb.size; try simp at hz)
  go_ret2
  exact ⟨by rw [HE.out]; rfl, by (repeat (first | exact Below.refl _ _ | (with_reducible exact Hid.out (by assumption)) | refine below_al ?_ _ | refine below_dr ?_ | refine below_tr ?_ (by assumption) | refine below_tr ?_ (Bel.out (by assumption)) | refine below_tr ?_ (Bel.out (ov_bel _ _)) | refine below_set ?_ (by simp; try omega)))⟩

set_option maxRecDepth 100000 in
set_option maxHeartbeats 4000000 in
theorem open_range (V : LV) (L : Lnd) (A B : Option Addr) (ca cb : Nat) (xs ys : List Int) (k : Int) (w : World) (hr : RdL w V L) (hf : faultL L = 0) (hxs : RowAt w A 1 encInt xs) (hys : RowAt w B 1 encInt ys) (lx : xs.length ≤ 2) (ly : ys.length ≤ 2)
    (he : openE L xs ys k = 2) :
    Calls Try.prog 27 #[vLnd V L, .slice A xs.length ca, .slice B ys.length cb, .int .i64 k] w fun e w' => e = .returned (.tuple #[.pointer none, .int .i64 2]) ∧ Below w.heap.size w w' := by
  have HE : (!xs.all (fun x => inR x 0 ((L.st.length : Int) - 1)) || !ys.all (fun x => inR x 0 L.su.length) || !inR k 0 ((L.ca.length : Int) - 1)) = true := by
    unfold openE at he
    rw [if_neg (by simpa using hf)] at he
    split at he
    · assumption
    · cases he
  have HF := Lib.hid hf
  have HC := Lib.hid (fun W (hW : Below w.heap.size w W) => check_any V L W (hr.below hW))
  have HX := Lib.hid (fun (wk : Nat) W (hW : Below w.heap.size w W) (hc : CellsAt W wk (landCells V L)) => allStaN wk A ca xs (fun x => inR x 0 ((L.st.length : Int) - 1)) W (hxs.kept (kept_of_below hW)) (by omega) (fun x W' hW' => station_any wk V L x W' (hc.kept (kept_of_below hW')) hr.l0))
  have HY := Lib.hid (fun (p bx : Nat) W (hW : Below w.heap.size w W) (hc : CellsAt W p (landCells V L)) (hb : W.cell? ⟨bx, 0, none⟩ = some (.pointer (some ⟨p, 0, none⟩))) => allTimN bx B cb ys (fun x => inR x 0 L.su.length) W (hys.kept (kept_of_below hW)) (by omega) (fun x W' hW' => time_any p bx V L x W' (hc.kept (kept_of_below hW')) (kept_of_below hW' _ _ hb) hr.l3))
  have hl2 := hr.l2
  generalize xs.all (fun x => inR x 0 ((L.st.length : Int) - 1)) = bx at *
  generalize ys.all (fun x => inR x 0 L.su.length) = by_ at *
  clear hr hxs hys he hf
  obtain ⟨a0, c0, a1, c1, a2, c2, a3, c3⟩ := V
  simp only [vLnd] at *
  replace HE := Lib.hid HE
  rcases Bool.eq_false_or_eq_true (!bx) with hb0 | hb0
  · first
      | (exfalso; have h9 := HE.out; simp [hb0, hb1, hb2] at h9; done)
      | (go_enter Try.func27, Try.ntmps27
         go_wp2_with fail
         refine (HC.out _ (by (repeat (first | exact Below.refl _ _ | (with_reducible exact Hid.out (by assumption)) | refine below_al ?_ _ | refine below_dr ?_ | refine below_tr ?_ (by assumption) | refine below_tr ?_ (Bel.out (by assumption)) | refine below_tr ?_ (Bel.out (ov_bel _ _)) | refine below_set ?_ (by simp; try omega))))).mono ?_
         rw [HF.out]
         rintro e w1 ⟨rfl, hb⟩
         obtain ⟨hc, hf⟩ := bcell hb
         have hz := hb.size
         try simp at hz
         go_wp2_with (first | (go_at_call 39; refine (HX.out w1.heap.size _ (by (repeat (first | exact Below.refl _ _ | (with_reducible exact Hid.out (by assumption)) | refine below_al ?_ _ | refine below_dr ?_ | refine below_tr ?_ (by assumption) | refine below_tr ?_ (Bel.out (by assumption)) | refine below_tr ?_ (Bel.out (ov_bel _ _)) | refine below_set ?_ (by simp; try omega)))) (cells4 (by (try go_simp); (repeat (simp only [↓IntWalk.iteOmega]; (try go_simp))); (try omega)) (by (try go_simp); (repeat (simp only [↓IntWalk.iteOmega]; (try go_simp))); (try omega)) (by (try go_simp); (repeat (simp only [↓IntWalk.iteOmega]; (try go_simp))); (try omega)) (by (try go_simp); (repeat (simp only [↓IntWalk.iteOmega]; (try go_simp))); (try omega)))).mono ?_; rintro e w' ⟨rfl, hb⟩; obtain ⟨hc, hf⟩ := bcell hb; have hz := hb.size; try simp at hz) | (go_at_call 39; refine (HY.out w1.heap.size (w1.heap.size + 1) _ (by (repeat (first | exact Below.refl _ _ | (with_reducible exact Hid.out (by assumption)) | refine below_al ?_ _ | refine below_dr ?_ | refine below_tr ?_ (by assumption) | refine below_tr ?_ (Bel.out (by assumption)) | refine below_tr ?_ (Bel.out (ov_bel _ _)) | refine below_set ?_ (by simp; try omega)))) (cells4 (by (try go_simp); (repeat (simp only [↓IntWalk.iteOmega]; (try go_simp))); (try omega)) (by (try go_simp); (repeat (simp only [↓IntWalk.iteOmega]; (try go_simp))); (try omega)) (by (try go_simp); (repeat (simp only [↓IntWalk.iteOmega]; (try go_simp))); (try omega)) (by (try go_simp); (repeat (simp only [↓IntWalk.iteOmega]; (try go_simp))); (try omega))) (by (try go_simp); (repeat (simp only [↓IntWalk.iteOmega]; (try go_simp))); (try omega))).mono ?_; rintro e w' ⟨rfl, hb⟩; obtain ⟨hc, hf⟩ := bcell hb; have hz := hb.size; try simp at hz) | (go_at_call 41; refine (rwithin_any _ _ _ _).mono ?_; rintro e w' ⟨rfl, rfl⟩))
         go_ret2
         exact ⟨rfl, by (repeat (first | exact Below.refl _ _ | (with_reducible exact Hid.out (by assumption)) | refine below_al ?_ _ | refine below_dr ?_ | refine below_tr ?_ (by assumption) | refine below_tr ?_ (Bel.out (by assumption)) | refine below_tr ?_ (Bel.out (ov_bel _ _)) | refine below_set ?_ (by simp; try omega)))⟩)
  · rcases Bool.eq_false_or_eq_true (!by_) with hb1 | hb1
    · first
        | (exfalso; have h9 := HE.out; simp [hb0, hb1, hb2] at h9; done)
        | (go_enter Try.func27, Try.ntmps27
           go_wp2_with fail
           refine (HC.out _ (by (repeat (first | exact Below.refl _ _ | (with_reducible exact Hid.out (by assumption)) | refine below_al ?_ _ | refine below_dr ?_ | refine below_tr ?_ (by assumption) | refine below_tr ?_ (Bel.out (by assumption)) | refine below_tr ?_ (Bel.out (ov_bel _ _)) | refine below_set ?_ (by simp; try omega))))).mono ?_
           rw [HF.out]
           rintro e w1 ⟨rfl, hb⟩
           obtain ⟨hc, hf⟩ := bcell hb
           have hz := hb.size
           try simp at hz
           go_wp2_with (first | (go_at_call 39; refine (HX.out w1.heap.size _ (by (repeat (first | exact Below.refl _ _ | (with_reducible exact Hid.out (by assumption)) | refine below_al ?_ _ | refine below_dr ?_ | refine below_tr ?_ (by assumption) | refine below_tr ?_ (Bel.out (by assumption)) | refine below_tr ?_ (Bel.out (ov_bel _ _)) | refine below_set ?_ (by simp; try omega)))) (cells4 (by (try go_simp); (repeat (simp only [↓IntWalk.iteOmega]; (try go_simp))); (try omega)) (by (try go_simp); (repeat (simp only [↓IntWalk.iteOmega]; (try go_simp))); (try omega)) (by (try go_simp); (repeat (simp only [↓IntWalk.iteOmega]; (try go_simp))); (try omega)) (by (try go_simp); (repeat (simp only [↓IntWalk.iteOmega]; (try go_simp))); (try omega)))).mono ?_; rintro e w' ⟨rfl, hb⟩; obtain ⟨hc, hf⟩ := bcell hb; have hz := hb.size; try simp at hz) | (go_at_call 39; refine (HY.out w1.heap.size (w1.heap.size + 1) _ (by (repeat (first | exact Below.refl _ _ | (with_reducible exact Hid.out (by assumption)) | refine below_al ?_ _ | refine below_dr ?_ | refine below_tr ?_ (by assumption) | refine below_tr ?_ (Bel.out (by assumption)) | refine below_tr ?_ (Bel.out (ov_bel _ _)) | refine below_set ?_ (by simp; try omega)))) (cells4 (by (try go_simp); (repeat (simp only [↓IntWalk.iteOmega]; (try go_simp))); (try omega)) (by (try go_simp); (repeat (simp only [↓IntWalk.iteOmega]; (try go_simp))); (try omega)) (by (try go_simp); (repeat (simp only [↓IntWalk.iteOmega]; (try go_simp))); (try omega)) (by (try go_simp); (repeat (simp only [↓IntWalk.iteOmega]; (try go_simp))); (try omega))) (by (try go_simp); (repeat (simp only [↓IntWalk.iteOmega]; (try go_simp))); (try omega))).mono ?_; rintro e w' ⟨rfl, hb⟩; obtain ⟨hc, hf⟩ := bcell hb; have hz := hb.size; try simp at hz) | (go_at_call 41; refine (rwithin_any _ _ _ _).mono ?_; rintro e w' ⟨rfl, rfl⟩))
           go_ret2
           exact ⟨rfl, by (repeat (first | exact Below.refl _ _ | (with_reducible exact Hid.out (by assumption)) | refine below_al ?_ _ | refine below_dr ?_ | refine below_tr ?_ (by assumption) | refine below_tr ?_ (Bel.out (by assumption)) | refine below_tr ?_ (Bel.out (ov_bel _ _)) | refine below_set ?_ (by simp; try omega)))⟩)
    · rcases Bool.eq_false_or_eq_true (!inR k 0 ((L.ca.length : Int) - 1)) with hb2 | hb2
      · first
          | (exfalso; have h9 := HE.out; simp [hb0, hb1, hb2] at h9; done)
          | (go_enter Try.func27, Try.ntmps27
             go_wp2_with fail
             refine (HC.out _ (by (repeat (first | exact Below.refl _ _ | (with_reducible exact Hid.out (by assumption)) | refine below_al ?_ _ | refine below_dr ?_ | refine below_tr ?_ (by assumption) | refine below_tr ?_ (Bel.out (by assumption)) | refine below_tr ?_ (Bel.out (ov_bel _ _)) | refine below_set ?_ (by simp; try omega))))).mono ?_
             rw [HF.out]
             rintro e w1 ⟨rfl, hb⟩
             obtain ⟨hc, hf⟩ := bcell hb
             have hz := hb.size
             try simp at hz
             go_wp2_with (first | (go_at_call 39; refine (HX.out w1.heap.size _ (by (repeat (first | exact Below.refl _ _ | (with_reducible exact Hid.out (by assumption)) | refine below_al ?_ _ | refine below_dr ?_ | refine below_tr ?_ (by assumption) | refine below_tr ?_ (Bel.out (by assumption)) | refine below_tr ?_ (Bel.out (ov_bel _ _)) | refine below_set ?_ (by simp; try omega)))) (cells4 (by (try go_simp); (repeat (simp only [↓IntWalk.iteOmega]; (try go_simp))); (try omega)) (by (try go_simp); (repeat (simp only [↓IntWalk.iteOmega]; (try go_simp))); (try omega)) (by (try go_simp); (repeat (simp only [↓IntWalk.iteOmega]; (try go_simp))); (try omega)) (by (try go_simp); (repeat (simp only [↓IntWalk.iteOmega]; (try go_simp))); (try omega)))).mono ?_; rintro e w' ⟨rfl, hb⟩; obtain ⟨hc, hf⟩ := bcell hb; have hz := hb.size; try simp at hz) | (go_at_call 39; refine (HY.out w1.heap.size (w1.heap.size + 1) _ (by (repeat (first | exact Below.refl _ _ | (with_reducible exact Hid.out (by assumption)) | refine below_al ?_ _ | refine below_dr ?_ | refine below_tr ?_ (by assumption) | refine below_tr ?_ (Bel.out (by assumption)) | refine below_tr ?_ (Bel.out (ov_bel _ _)) | refine below_set ?_ (by simp; try omega)))) (cells4 (by (try go_simp); (repeat (simp only [↓IntWalk.iteOmega]; (try go_simp))); (try omega)) (by (try go_simp); (repeat (simp only [↓IntWalk.iteOmega]; (try go_simp))); (try omega)) (by (try go_simp); (repeat (simp only [↓IntWalk.iteOmega]; (try go_simp))); (try omega)) (by (try go_simp); (repeat (simp only [↓IntWalk.iteOmega]; (try go_simp))); (try omega))) (by (try go_simp); (repeat (simp only [↓IntWalk.iteOmega]; (try go_simp))); (try omega))).mono ?_; rintro e w' ⟨rfl, hb⟩; obtain ⟨hc, hf⟩ := bcell hb; have hz := hb.size; try simp at hz) | (go_at_call 41; refine (rwithin_any _ _ _ _).mono ?_; rintro e w' ⟨rfl, rfl⟩))
             go_ret2
             exact ⟨rfl, by (repeat (first | exact Below.refl _ _ | (with_reducible exact Hid.out (by assumption)) | refine below_al ?_ _ | refine below_dr ?_ | refine below_tr ?_ (by assumption) | refine below_tr ?_ (Bel.out (by assumption)) | refine below_tr ?_ (Bel.out (ov_bel _ _)) | refine below_set ?_ (by simp; try omega)))⟩)
      · first
          | (exfalso; have h9 := HE.out; simp [hb0, hb1, hb2] at h9; done)
          | (go_enter Try.func27, Try.ntmps27
             go_wp2_with fail
             refine (HC.out _ (by (repeat (first | exact Below.refl _ _ | (with_reducible exact Hid.out (by assumption)) | refine below_al ?_ _ | refine below_dr ?_ | refine below_tr ?_ (by assumption) | refine below_tr ?_ (Bel.out (by assumption)) | refine below_tr ?_ (Bel.out (ov_bel _ _)) | refine below_set ?_ (by simp; try omega))))).mono ?_
             rw [HF.out]
             rintro e w1 ⟨rfl, hb⟩
             obtain ⟨hc, hf⟩ := bcell hb
             have hz := hb.size
             try simp at hz
             go_wp2_with (first | (go_at_call 39; refine (HX.out w1.heap.size _ (by (repeat (first | exact Below.refl _ _ | (with_reducible exact Hid.out (by assumption)) | refine below_al ?_ _ | refine below_dr ?_ | refine below_tr ?_ (by assumption) | refine below_tr ?_ (Bel.out (by assumption)) | refine below_tr ?_ (Bel.out (ov_bel _ _)) | refine below_set ?_ (by simp; try omega)))) (cells4 (by (try go_simp); (repeat (simp only [↓IntWalk.iteOmega]; (try go_simp))); (try omega)) (by (try go_simp); (repeat (simp only [↓IntWalk.iteOmega]; (try go_simp))); (try omega)) (by (try go_simp); (repeat (simp only [↓IntWalk.iteOmega]; (try go_simp))); (try omega)) (by (try go_simp); (repeat (simp only [↓IntWalk.iteOmega]; (try go_simp))); (try omega)))).mono ?_; rintro e w' ⟨rfl, hb⟩; obtain ⟨hc, hf⟩ := bcell hb; have hz := hb.size; try simp at hz) | (go_at_call 39; refine (HY.out w1.heap.size (w1.heap.size + 1) _ (by (repeat (first | exact Below.refl _ _ | (with_reducible exact Hid.out (by assumption)) | refine below_al ?_ _ | refine below_dr ?_ | refine below_tr ?_ (by assumption) | refine below_tr ?_ (Bel.out (by assumption)) | refine below_tr ?_ (Bel.out (ov_bel _ _)) | refine below_set ?_ (by simp; try omega)))) (cells4 (by (try go_simp); (repeat (simp only [↓IntWalk.iteOmega]; (try go_simp))); (try omega)) (by (try go_simp); (repeat (simp only [↓IntWalk.iteOmega]; (try go_simp))); (try omega)) (by (try go_simp); (repeat (simp only [↓IntWalk.iteOmega]; (try go_simp))); (try omega)) (by (try go_simp); (repeat (simp only [↓IntWalk.iteOmega]; (try go_simp))); (try omega))) (by (try go_simp); (repeat (simp only [↓IntWalk.iteOmega]; (try go_simp))); (try omega))).mono ?_; rintro e w' ⟨rfl, hb⟩; obtain ⟨hc, hf⟩ := bcell hb; have hz := hb.size; try simp at hz) | (go_at_call 41; refine (rwithin_any _ _ _ _).mono ?_; rintro e w' ⟨rfl, rfl⟩))
             go_ret2
             exact ⟨rfl, by (repeat (first | exact Below.refl _ _ | (with_reducible exact Hid.out (by assumption)) | refine below_al ?_ _ | refine below_dr ?_ | refine below_tr ?_ (by assumption) | refine below_tr ?_ (Bel.out (by assumption)) | refine below_tr ?_ (Bel.out (ov_bel _ _)) | refine below_set ?_ (by simp; try omega)))⟩)

/-- A land at work: its block p, the row K of its maps rs. -/
structure RW (w : World) (p K : Nat) (kc : Nat) (V : LV) (L : Lnd) (rs : Nat → Nat) : Prop where
  cells : CellsAt w p (landCells V L)
  known : w.cell? ⟨p, 4, none⟩ = some (.slice (some ⟨K, 0, none⟩) L.ca.length kc)
  row : ∀ k, k < L.ca.length → w.cell? ⟨K, k, none⟩ = some (.map (some (rs k)))
  kc : L.ca.length ≤ kc
  inj : ∀ k k', k < L.ca.length → k' < L.ca.length → rs k = rs k' → k = k'
  rd : RdL w V L
/-- The set of its maps. -/
def MS (L : Lnd) (rs : Nat → Nat) (r : Nat) : Prop := ∃ k, k < L.ca.length ∧ rs k = r

/-- The loop that makes the maps: j of them made. -/
def OpRel (w W0 : World) (p Bw : Nat) (V : LV) (L : Lnd) (m : Value) (wr : World) : Prop :=
  ∃ (j : Nat) (rs : Nat → Nat) (v : Value), j ≤ L.ca.length ∧ m = .int .i64 j ∧ wr.cell? ⟨p, 4, none⟩ = some v ∧ wr.frozen? ⟨p, 4, none⟩ = false ∧ wr.cell? ⟨Bw, 0, none⟩ = some (.pointer (some ⟨p, 0, none⟩)) ∧
    wr.ownsRow W0.heap.size 115 1 v j ((List.range j).map fun k => .map (some (rs k))) ∧ CellsAt wr p (landCells V L) ∧ Below w.heap.size w wr ∧ W0.heap.size ≤ wr.heap.size ∧
    (∀ k, k < j → W0.heap.size ≤ rs k ∧ wr.heap[rs k]? = some (.map #[] 0)) ∧ ∀ k k', k < j → k' < j → rs k = rs k' → k = k'
/-- 'open' has taken a land to work. -/
def OpenMade (V : LV) (L : Lnd) (w : World) (e : Ending) (w' : World) : Prop :=
  ∃ p K kc rs, e = .returned (.tuple #[.pointer (some ⟨p, 0, none⟩), .int .i64 0]) ∧ Below w.heap.size w w' ∧ RW w' p K kc V L rs ∧ ∀ k, k < L.ca.length → w.heap.size ≤ rs k ∧ w'.heap[rs k]? = some (.map #[] 0)
theorem info_map : (Try.prog.info? 115).map (fun i => (i.zero, i.size, i.bytes)) = some (some (.map none), 1, 8) := by kernel_rfl

theorem ownsRow_setOther {w : World} {base : Nat} {e : TypeId} {size : Nat} {v : Value} {n : Nat} {xs : List Value} (h : w.ownsRow base e size v n xs) {a : Addr} (ha : a.block < base) (u : Value) : (w.setCell a u).ownsRow base e size v n xs := by
  obtain ⟨h1, h2⟩ := h
  refine ⟨h1, ?_⟩
  rcases h2 with h2 | ⟨g, cap, cur, hv, hg, hh, r⟩
  · exact .inl h2
  · exact .inr ⟨g, cap, cur, hv, hg, (Below.heap_setCell _ _ _ g (by omega)).trans hh, r⟩
theorem op_step {w W0 wr w4 : World} {p : Nat} {V : LV} {L : Lnd} {j : Nat} {rs : Nat → Nat} {v : Value} {g4 cap4 : Nat} (hlt : j < L.ca.length) (hwp : w.heap.size ≤ p) (hsz : p + 1 < W0.heap.size)
    (hown : wr.ownsRow W0.heap.size 115 1 v j ((List.range j).map fun k => .map (some (rs k)))) (hcells : CellsAt wr p (landCells V L)) (hB : Below w.heap.size w wr) (hsz2 : W0.heap.size ≤ wr.heap.size)
    (hmaps : ∀ k, k < j → W0.heap.size ≤ rs k ∧ wr.heap[rs k]? = some (.map #[] 0)) (hinj : ∀ k k', k < j → k' < j → rs k = rs k' → k = k')
    (hgrow : ((wr.alloc (.map #[] 0)).alloc (.cells #[.map (some wr.heap.size)] 115)).drew.grownBy w4 v.ownBlock)
    (hown4 : w4.ownsRow W0.heap.size 115 1 (.slice (some ⟨g4, 0, none⟩) (j + 1) cap4) (j + 1) (((List.range j).map fun k => .map (some (rs k))) ++ [.map (some wr.heap.size)]))
    (y4 : w4.cell? ⟨p, 4, none⟩ = some v) (y11 : w4.cell? ⟨p + 1, 0, none⟩ = some (.pointer (some ⟨p, 0, none⟩))) (yf : w4.frozen? ⟨p, 4, none⟩ = false) :
    OpRel w W0 p (p + 1) V L (.int .i64 ((j : Int) + 1)) (w4.setCell ⟨p, 4, none⟩ (.slice (some ⟨g4, 0, none⟩) (j + 1) cap4)) := by
  have hlo : ∀ k, v.ownBlock = some k → W0.heap.size ≤ k ∧ k < wr.heap.size := hown.lt
  have hb1 : Below wr.heap.size wr ((wr.alloc (.map #[] 0)).alloc (.cells #[.map (some wr.heap.size)] 115)).drew := by (repeat (first | exact Below.refl _ _ | (with_reducible exact Hid.out (by assumption)) | refine below_al ?_ _ | refine below_dr ?_ | refine below_tr ?_ (by assumption) | refine below_tr ?_ (Bel.out (by assumption)) | refine below_tr ?_ (Bel.out (ov_bel _ _)) | refine below_set ?_ (by simp; try omega)))
  have hz1 : ((wr.alloc (.map #[] 0)).alloc (.cells #[.map (some wr.heap.size)] 115)).drew.heap.size = wr.heap.size + 2 := by simp
  have hz4 := hgrow.size
  rw [hz1] at hz4
  refine ⟨j + 1, fun k => if k = j then wr.heap.size else rs k, _, by omega, by go_num, cell_set y4 _, by rw [World.frozen?_setCell]; exact yf, ?_, ?_, ?_, ?_, ?_, ?_, ?_⟩
  · exact (World.cell?_setCell_other _ _ _ _ (by intro e; cases e)).trans y11
  · have := ownsRow_setOther hown4 (a := ⟨p, 4, none⟩) (by simp only; omega) (.slice (some ⟨g4, 0, none⟩) (j + 1) cap4)
    have e : (List.range (j + 1)).map (fun k => Value.map (some (if k = j then wr.heap.size else rs k))) = ((List.range j).map fun k => .map (some (rs k))) ++ [.map (some wr.heap.size)] := by
      rw [List.range_succ, List.map_append]
      congr 1
      · apply List.map_congr_left
        intro k hk
        have := List.mem_range.1 hk
        simp [show k ≠ j by omega]
      · simp
    rw [e]
    exact this
  · intro i x hx
    have hi : i < 4 := by
      have := (List.getElem?_eq_some_iff.1 hx).1
      simpa using this
    refine (World.cell?_setCell_other _ _ _ _ (by intro e; cases e; omega)).trans ?_
    exact grown_cell hgrow (fun k hk => (hlo k hk).1) (kept_of_below hb1 _ _ (hcells i x hx)) (by omega)
  · refine Below.setCell ?_ (by simp only; omega) _
    exact (below_tr hB hb1).grown hgrow (by have := (below_tr hB hb1).size; omega) (fun k hk => by have := (hlo k hk).1; omega)
  · simp; omega
  · intro k hk
    by_cases e : k = j
    · subst e
      simp only [if_true]
      refine ⟨hsz2, (Below.heap_setCell _ _ _ _ (by simp only; omega)).trans ?_⟩
      rw [hgrow.block _ (by rw [hz1]; omega) (by intro e; have := (hlo _ e.symm).2; omega)]
      exact heap_al2 wr _ _
    · obtain ⟨m1, m2⟩ := hmaps k (by omega)
      simp only [e, if_false]
      refine ⟨m1, (Below.heap_setCell _ _ _ _ (by simp only; omega)).trans ?_⟩
      have hlt2 := (Array.getElem?_eq_some_iff.1 m2).1
      rw [hgrow.block _ (by rw [hz1]; omega) (by
        intro e
        rcases hown.2 with ⟨rfl, _⟩ | ⟨g, cap, cur, rfl, _, hh, _⟩
        · simp [Value.ownBlock] at e
        · simp [Value.ownBlock] at e
          rw [e, hh] at m2
          cases m2)]
      exact (hb1.block _ hlt2).trans m2
  · intro k k' hk hk' e
    by_cases e1 : k = j
    · by_cases e2 : k' = j
      · omega
      · simp only [e1, e2, if_true, if_false] at e
        have := (Array.getElem?_eq_some_iff.1 (hmaps k' (by omega)).2).1
        omega
    · by_cases e2 : k' = j
      · simp only [e1, e2, if_true, if_false] at e
        have := (Array.getElem?_eq_some_iff.1 (hmaps k (by omega)).2).1
        omega
      · simp only [e1, e2, if_false] at e
        exact hinj k k' (by omega) (by omega) e

set_option maxRecDepth 100000 in
set_option maxHeartbeats 8000000 in
theorem open_ok (V : LV) (L : Lnd) (A B : Option Addr) (ca cb : Nat) (xs ys : List Int) (k : Int) (w : World) (hr : RdL w V L) (hf : faultL L = 0) (hxs : RowAt w A 1 encInt xs) (hys : RowAt w B 1 encInt ys) (lx : xs.length ≤ 2) (ly : ys.length ≤ 2)
    (he : openE L xs ys k = 0) :
    Calls Try.prog 27 #[vLnd V L, .slice A xs.length ca, .slice B ys.length cb, .int .i64 k] w (OpenMade V L w) := by
  have HE : xs.all (fun x => inR x 0 ((L.st.length : Int) - 1)) = true ∧ ys.all (fun x => inR x 0 L.su.length) = true ∧ inR k 0 ((L.ca.length : Int) - 1) = true := by
    unfold openE at he
    rw [if_neg (by simpa using hf)] at he
    split at he
    · cases he
    · rename_i h
      simp only [Bool.or_eq_true, Bool.not_eq_true', not_or, Bool.not_eq_false] at h
      exact ⟨h.1.1, h.1.2, h.2⟩
  have HF := Lib.hid hf
  have HC := Lib.hid (fun W (hW : Below w.heap.size w W) => check_any V L W (hr.below hW))
  have HX := Lib.hid (fun (wk : Nat) W (hW : Below w.heap.size w W) (hc : CellsAt W wk (landCells V L)) => allStaN wk A ca xs (fun x => inR x 0 ((L.st.length : Int) - 1)) W (hxs.kept (kept_of_below hW)) (by omega) (fun x W' hW' => station_any wk V L x W' (hc.kept (kept_of_below hW')) hr.l0))
  have HY := Lib.hid (fun (p bx : Nat) W (hW : Below w.heap.size w W) (hc : CellsAt W p (landCells V L)) (hb : W.cell? ⟨bx, 0, none⟩ = some (.pointer (some ⟨p, 0, none⟩))) => allTimN bx B cb ys (fun x => inR x 0 L.su.length) W (hys.kept (kept_of_below hW)) (by omega) (fun x W' hW' => time_any p bx V L x W' (hc.kept (kept_of_below hW')) (kept_of_below hW' _ _ hb) hr.l3))
  have HR := Lib.hid hr
  have hl2 := hr.l2
  obtain ⟨h1, h2, h3⟩ := HE
  rw [h1] at HX
  rw [h2] at HY
  clear hr hxs hys he hf h1 h2
  obtain ⟨a0, c0, a1, c1, a2, c2, a3, c3⟩ := V
  simp only [vLnd] at *
  obtain ⟨i0, hi0, hz0, hz1, hz2⟩ := info_parts info_map
  have hmm := @run_makeMap Try.prog
  go_enter Try.func27, Try.ntmps27
  go_wp2_with fail
  refine (HC.out _ (by (repeat (first | exact Below.refl _ _ | (with_reducible exact Hid.out (by assumption)) | refine below_al ?_ _ | refine below_dr ?_ | refine below_tr ?_ (by assumption) | refine below_tr ?_ (Bel.out (by assumption)) | refine below_tr ?_ (Bel.out (ov_bel _ _)) | refine below_set ?_ (by simp; try omega))))).mono ?_
  rw [HF.out]
  rintro e w1 ⟨rfl, hb⟩
  obtain ⟨hc, hf⟩ := bcell hb
  have hz := hb.size
  try simp at hz
  go_wp2_with (first | (go_at_call 39; refine (HX.out w1.heap.size _ (by (repeat (first | exact Below.refl _ _ | (with_reducible exact Hid.out (by assumption)) | refine below_al ?_ _ | refine below_dr ?_ | refine below_tr ?_ (by assumption) | refine below_tr ?_ (Bel.out (by assumption)) | refine below_tr ?_ (Bel.out (ov_bel _ _)) | refine below_set ?_ (by simp; try omega)))) (cells4 (by (try go_simp); (repeat (simp only [↓IntWalk.iteOmega]; (try go_simp))); (try omega)) (by (try go_simp); (repeat (simp only [↓IntWalk.iteOmega]; (try go_simp))); (try omega)) (by (try go_simp); (repeat (simp only [↓IntWalk.iteOmega]; (try go_simp))); (try omega)) (by (try go_simp); (repeat (simp only [↓IntWalk.iteOmega]; (try go_simp))); (try omega)))).mono ?_; rintro e w' ⟨rfl, hb⟩; obtain ⟨hc, hf⟩ := bcell hb; have hz := hb.size; try simp at hz) | (go_at_call 39; refine (HY.out w1.heap.size (w1.heap.size + 1) _ (by (repeat (first | exact Below.refl _ _ | (with_reducible exact Hid.out (by assumption)) | refine below_al ?_ _ | refine below_dr ?_ | refine below_tr ?_ (by assumption) | refine below_tr ?_ (Bel.out (by assumption)) | refine below_tr ?_ (Bel.out (ov_bel _ _)) | refine below_set ?_ (by simp; try omega)))) (cells4 (by (try go_simp); (repeat (simp only [↓IntWalk.iteOmega]; (try go_simp))); (try omega)) (by (try go_simp); (repeat (simp only [↓IntWalk.iteOmega]; (try go_simp))); (try omega)) (by (try go_simp); (repeat (simp only [↓IntWalk.iteOmega]; (try go_simp))); (try omega)) (by (try go_simp); (repeat (simp only [↓IntWalk.iteOmega]; (try go_simp))); (try omega))) (by (try go_simp); (repeat (simp only [↓IntWalk.iteOmega]; (try go_simp))); (try omega))).mono ?_; rintro e w' ⟨rfl, hb⟩; obtain ⟨hc, hf⟩ := bcell hb; have hz := hb.size; try simp at hz) | (go_at_call 41; refine (rwithin_any _ _ _ _).mono ?_; rintro e w' ⟨rfl, rfl⟩))
  have hW0 : ∃ W0, W0 = w' := ⟨_, rfl⟩
  obtain ⟨W0, hW0⟩ := hW0
  subst hW0
  have hBW : Below w.heap.size w W0 := by (repeat (first | exact Below.refl _ _ | (with_reducible exact Hid.out (by assumption)) | refine below_al ?_ _ | refine below_dr ?_ | refine below_tr ?_ (by assumption) | refine below_tr ?_ (Bel.out (by assumption)) | refine below_tr ?_ (Bel.out (ov_bel _ _)) | refine below_set ?_ (by simp; try omega)))
  have x11 : W0.cell? ⟨w1.heap.size + 1, 0, none⟩ = some (.pointer (some ⟨w1.heap.size, 0, none⟩)) := (by (try go_simp); (repeat (simp only [↓IntWalk.iteOmega]; (try go_simp))); (try omega))
  have x4 : W0.cell? ⟨w1.heap.size, 4, none⟩ = some (.slice none 0 0) := (by (try go_simp); (repeat (simp only [↓IntWalk.iteOmega]; (try go_simp))); (try omega))
  have f4 : W0.frozen? ⟨w1.heap.size, 4, none⟩ = false := (by (try go_simp); (repeat (simp only [↓IntWalk.iteOmega]; (try go_simp))); (try omega))
  have xL : CellsAt W0 w1.heap.size (landCells ⟨a0, c0, a1, c1, a2, c2, a3, c3⟩ L) := cells4 (by (try go_simp); (repeat (simp only [↓IntWalk.iteOmega]; (try go_simp))); (try omega)) (by (try go_simp); (repeat (simp only [↓IntWalk.iteOmega]; (try go_simp))); (try omega)) (by (try go_simp); (repeat (simp only [↓IntWalk.iteOmega]; (try go_simp))); (try omega)) (by (try go_simp); (repeat (simp only [↓IntWalk.iteOmega]; (try go_simp))); (try omega))
  have hsz := cell_lt x11
  simp only at hsz
  replace xL := Lib.hid xL
  replace hBW := Lib.hid hBW
  clear hc hf hz hb HX HY HC
  generalize w1.heap.size = p at *
  go_loopw [47] (fun m wr => OpRel w W0 p (p + 1) ⟨a0, c0, a1, c1, a2, c2, a3, c3⟩ L m wr) (fun m _ => L.ca.length - (intOf m).toNat)
  case atStart => exact ⟨0, fun _ => 0, _, Nat.zero_le _, rfl, x4, f4, x11, World.ownsRow_nil _ _ _ _, xL.out, hBW.out, Nat.le_refl _, fun k hk => by omega, fun k k' hk => by omega⟩
  case round =>
    clear x4 f4 x11
    obtain ⟨j, rs, v, hj, rfl, x4, f4, x11, hown, hcells, hB, hsz2, hmaps, hinj⟩ := hrel
    have hlo : ∀ k, v.ownBlock = some k → W0.heap.size ≤ k := fun k hk => (hown.lt k hk).1
    replace hown := Lib.hid hown
    replace hcells := Lib.hid hcells
    replace hB := Lib.hid hB
    replace hmaps := Lib.hid hmaps
    replace hinj := Lib.hid hinj
    replace hlo := Lib.hid hlo
    by_cases hlt : j < L.ca.length
    · have n1 : ¬ p = wr.heap.size := by omega
      have n2 : ¬ p = wr.heap.size + 1 := by omega
      have n3 : ¬ p + 1 = wr.heap.size := by omega
      have n4 : ¬ p + 1 = wr.heap.size + 1 := by omega
      go_wp2
      go_region_law (refine step_append_own rfl (.tmp 53) (.tmp 55) 112 rfl W0.heap.size 115 i0 (.map none) 1 8 Try.underlying112 hi0 hz0 hz1 hz2 rfl (by decide) v j _ (by simp [Act.eval, Act.put]) (owns_below hown.out (by (repeat (first | exact Below.refl _ _ | (with_reducible exact Hid.out (by assumption)) | refine below_al ?_ _ | refine below_dr ?_ | refine below_tr ?_ (by assumption) | refine below_tr ?_ (Bel.out (by assumption)) | refine below_tr ?_ (Bel.out (ov_bel _ _)) | refine below_set ?_ (by simp; try omega))))) ⟨wr.heap.size + 1, 0, none⟩ 1 1 [.map (some wr.heap.size)] (by simp [Act.eval, Act.put]) rfl (cellsNew1 (by go_simp)) (by simp [Value.oneCell']) (by unfold maxLen; omega) (by omega) (by simp; omega) ?_; intro v' w4 hown4 hgrow; obtain ⟨g4, cap4, rfl⟩ := ownsRow_succ hown4; have y4 := grown_cell (b := p) (o := 4) (x := v) hgrow hlo.out (by (try go_simp); (repeat (simp only [↓IntWalk.iteOmega]; (try go_simp))); (try omega)) (by omega); have y11 := grown_cell (b := p + 1) (o := 0) (x := .pointer (some ⟨p, 0, none⟩)) hgrow hlo.out (by (try go_simp); (repeat (simp only [↓IntWalk.iteOmega]; (try go_simp))); (try omega)) (by omega); have yf := grown_frozen (b := p) (o := 4) hgrow hlo.out (by (try go_simp); (repeat (simp only [↓IntWalk.iteOmega]; (try go_simp))); (try omega)) (by simp; omega) (by omega))
      all_goals
        have hst := Lib.hid (op_step hlt (by omega) (by omega) hown.out hcells.out hB.out hsz2 hmaps.out hinj.out hgrow hown4 y4 y11 yf)
        clear hgrow hown4 y4 y11 yf hown hcells hB hmaps hinj hlo x4 f4 x11
        go_wp2
        go_roundw
        case rel => exact hst.out
        case measure => simp [intOf]; omega
    · have hjm : j = L.ca.length := by omega
      subst hjm
      have hc1 : 1 ≤ L.ca.length := (okay_of HF.out).c0
      obtain ⟨j', hj'⟩ : ∃ j', L.ca.length = j' + 1 := ⟨L.ca.length - 1, by omega⟩
      have hcs := fun g => hown.out.cells (g := g)
      have hv := hown.out
      rw [hj'] at hv
      obtain ⟨g4, cap4, rfl⟩ := ownsRow_succ hv
      have hcap : j' + 1 ≤ cap4 := by
        rcases hv.2 with ⟨e, _⟩ | ⟨g, cap, cur, e, _, _, h, _⟩
        · cases e
        · cases e; exact h
      clear hv
      rw [← hj'] at x4 hcap
      have hRW : RW wr p g4 cap4 ⟨a0, c0, a1, c1, a2, c2, a3, c3⟩ L rs := ⟨hcells.out, x4, fun k hk => by
          have := hcs g4 rfl k (.map (some (rs k))) (by simp [hk])
          rwa [show (⟨g4, 0, none⟩ : Addr).add k = ⟨g4, k, none⟩ from by unfold Addr.add; split <;> simp_all] at this, hcap, hinj.out, HR.out.below hB.out⟩
      replace hRW := Lib.hid hRW
      clear hcs hown hcells hinj hlo x4 f4 hj'
      go_wp2
      go_ret2
      exact ⟨p, g4, cap4, rs, rfl, hB.out, hRW.out, fun k hk => ⟨by have := (hmaps.out k hk).1; have := hBW.out.size; omega, (hmaps.out k hk).2⟩⟩
end Go.Proofs.Ytdfohielnfdmkaa

/- Walks: package relay: the stations to which a station can flash, as a set of bits; its iterator. -/
set_option linter.unusedVariables false
set_option linter.unusedSimpArgs false
namespace Go.Proofs.Ytdfohielnfdmkaa
open Go.RowKit
attribute [local go_sem low] cell_alloc_ite frozen_alloc_ite ov_cell ov_frozen cell_alloc_map frozen_alloc_map

/-- A set of stations. -/
def flOf (xs : List Int) : Nat := xs.foldl (fun f x => f ||| 2 ^ x.toNat) 0
theorem flOf_snoc (xs : List Int) (x : Int) : flOf (xs ++ [x]) = flOf xs ||| 2 ^ x.toNat := by simp [flOf]
theorem flOf_lt (xs : List Int) (h : ∀ x, x ∈ xs → 0 ≤ x ∧ x < 6) : flOf xs < 64 := by
  have key : ∀ (ys : List Int) (a : Nat), a < 2 ^ 6 → (∀ x, x ∈ ys → 0 ≤ x ∧ x < 6) → ys.foldl (fun f x => f ||| 2 ^ x.toNat) a < 2 ^ 6 := by
    intro ys
    induction ys with
    | nil => intro a ha _; exact ha
    | cons y ys ih =>
      intro a ha hy
      simp only [List.foldl_cons]
      refine ih _ (Nat.or_lt_two_pow ha ?_) (fun x hx => hy x (List.mem_cons_of_mem _ hx))
      have := hy y (List.mem_cons_self ..)
      exact Nat.pow_lt_pow_right (by omega) (by omega)
  exact key xs 0 (by decide) h
theorem flOf_bit (xs : List Int) (h : ∀ x, x ∈ xs → 0 ≤ x) (j : Nat) : (flOf xs).testBit j = xs.contains (j : Int) := by
  have key : ∀ (ys : List Int) (a : Nat), (∀ x, x ∈ ys → 0 ≤ x) → (ys.foldl (fun f x => f ||| 2 ^ x.toNat) a).testBit j = (a.testBit j || ys.contains (j : Int)) := by
    intro ys
    induction ys with
    | nil => intro a _; simp
    | cons y ys ih =>
      intro a hy
      have h0 := hy y (List.mem_cons_self ..)
      simp only [List.foldl_cons, List.contains_cons]
      rw [ih _ (fun x hx => hy x (List.mem_cons_of_mem _ hx)), Nat.testBit_or, Nat.testBit_two_pow, Bool.or_assoc]
      congr 2
      rw [Bool.eq_iff_iff]
      simp only [decide_eq_true_eq, beq_iff_eq]
      omega
  have := key xs 0 h
  simpa [flOf] using this

theorem or_step (f : Nat) (x : Int) (hf : f < 64) (h0 : 0 ≤ x) (h5 : x < 6) : bits BinOp.or IntKind.u64 (f : Int) (IntKind.u64.wrap (2 ^ x.toNat)) = ((f ||| 2 ^ x.toNat : Nat) : Int) := by
  have hp : 2 ^ x.toNat < 64 := Nat.pow_lt_pow_right (a := 2) (m := x.toNat) (n := 6) (by omega) (by omega)
  have e : ((2 : Int) ^ x.toNat) = ((2 ^ x.toNat : Nat) : Int) := by simp
  rw [e]
  generalize 2 ^ x.toNat = q at *
  rw [IntWalk.u64_in _ (by omega), bits_or_u64_nat _ _ (by omega) (by omega)]
/-- The set of the stations to which a station can flash. -/
def flN (L : Lnd) (i k h : Nat) : Nat := flOf (rcTo L i k h L.st.length)
theorem rcTo_mem {L : Lnd} {i k h m : Nat} {x : Int} (hx : x ∈ rcTo L i k h m) : 0 ≤ x ∧ x < m := by
  unfold rcTo at hx
  obtain ⟨j, hj, rfl⟩ := List.mem_map.1 hx
  have := List.mem_range.1 (List.mem_filter.1 hj).1
  omega
/-- What is stored of a station at an hour. -/
def FlPhi (L : Lnd) (k : Nat) (s h : Int) (v : Value) : Prop := ∀ i h' : Nat, s = i → h = h' → v = .int .u64 (flN L i k h')
/-- All maps of a land at work are right. -/
def RM (w : World) (L : Lnd) (rs : Nat → Nat) : Prop := ∀ k, k < L.ca.length → MapInv w (rs k) (FlPhi L k)
theorem RM.maps {w : World} {L : Lnd} {rs : Nat → Nat} (h : RM w L rs) : MapsOf (MS L rs) w := fun r ⟨k, hk, e⟩ => by
  subst e; obtain ⟨es, c, h, _⟩ := h k hk; exact ⟨es, c, h⟩
theorem RM.below {w w' : World} {L : Lnd} {rs : Nat → Nat} (h : RM w L rs) (hb : Below w.heap.size w w') : RM w' L rs := fun k hk =>
  (h k hk).mono (hb.block _ (h.maps.lt ⟨k, hk, rfl⟩)) (fun _ _ _ q => q)
theorem RW.below {w w' : World} {p K kc : Nat} {V : LV} {L : Lnd} {rs : Nat → Nat} (h : RW w p K kc V L rs) (hb : Below w.heap.size w w') : RW w' p K kc V L rs := by
  have hk := kept_of_below hb
  exact ⟨h.cells.kept hk, hk _ _ h.known, fun k hlt => hk _ _ (h.row k hlt), h.kc, h.inj, h.rd.kept hk⟩
theorem RW.keep {w w' : World} {p K kc : Nat} {V : LV} {L : Lnd} {rs : Nat → Nat} {S : Nat → Prop} (h : RW w p K kc V L rs) (hb : KeepM S w w') : RW w' p K kc V L rs := by
  have hk := hb.kept
  exact ⟨h.cells.kept hk, hk _ _ h.known, fun k hlt => hk _ _ (h.row k hlt), h.kc, h.inj, h.rd.kept hk⟩
/-- What 'from' gives. -/
def FromMade (L : Lnd) (rs : Nat → Nat) (i k h : Nat) (w : World) (e : Ending) (w' : World) : Prop :=
  e = .returned (.int .u64 (flN L i k h)) ∧ KeepM (MS L rs) w w' ∧ RM w' L rs
theorem spotKey : PairKey Try.prog 93 where
  eq := fun w a b c d => by
    rw [Op.equal, Op.maxDepth, show (10000 : Nat) = 9999 + 1 from rfl]
    simp [go_sem]
    by_cases h1 : a = c <;> by_cases h2 : b = d <;> simp [h1, h2]
  chk := fun w e a b => by
    rw [show (10000 : Nat) = (9998 + 1) + 1 from rfl, Instr.checkKey]
    simp [go_sem]
    rw [show (9999 : Nat) = 9998 + 1 from rfl, chk_int, Result.andThen_ok, chk_int]
  under := ⟨_, Try.underlying93⟩
theorem zeroFl (w : World) : (zeroValue 108).run Try.prog w = .ok (.int .u64 0) w := by kernel_rfl

set_option maxRecDepth 100000 in
set_option maxHeartbeats 8000000 in
theorem from_any (p kb kc : Nat) (V : LV) (L : Lnd) (rs : Nat → Nat) (i k h : Nat) (w : World) (hw : RW w p kb kc V L rs) (hm : RM w L rs) (ok : Okay L) (li : i < L.st.length) (lk : k < L.ca.length) (lh : h < L.su.length) :
    Calls Try.prog 42 #[.pointer (some ⟨p, 0, none⟩), .int .i64 k, .agg #[.int .i64 i, .int .i64 h]] w (FromMade L rs i k h w) := by
  obtain ⟨v0, known, hrun, hcase⟩ := run_lookup_pair spotKey Try.underlying115 zeroFl (hm k lk) i h
  have x4 := hw.known
  have xk := hw.row k lk
  have p0 := hw.cells 0 _ rfl
  have p1 := hw.cells 1 _ rfl
  have p2 := hw.cells 2 _ rfl
  have p3 := hw.cells 3 _ rfl
  have hkc := hw.kc
  have hc1 := ok.c1
  have hlp := cell_lt x4
  have hlk := cell_lt xk
  have hlr := hm.maps.lt ⟨k, lk, rfl⟩
  simp only at hlp hlk
  have HRc := Lib.hid (fun W (hW : Below w.heap.size w W) => reach_any V L i k h W (hw.rd.below hW) ok li lk lh)
  have H := Lib.hid hw
  have HM := Lib.hid hm
  have OK := Lib.hid ok
  have hlu : ∀ kk, (Instr.lookup 115 (.map (some (rs k))) (.agg #[.int .i64 i, .int .i64 h]) true).run Try.prog (ov (w.alloc (.cells #[.int .i64 i, .int .i64 h] 93)) kk) = .ok (.tuple #[v0, .bool known]) (ov (w.alloc (.cells #[.int .i64 i, .int .i64 h] 93)) kk) := fun kk =>
    hrun _ (((ov_bel _ kk).out.block (rs k) (by simp; omega)).trans (Below.heap_alloc _ _ _ hlr))
  clear hrun hw hm ok
  rcases hcase with ⟨rfl, rfl⟩ | ⟨rfl, hphi⟩
  · go_enter Try.func42, Try.ntmps42
    go_wp2
    (refine wp_region_ov (by kernel_rfl) (by kernel_rfl) (fun R hR => ?_); (repeat (go_big_quiet_step (fail))); refine wpQuiet_nil ?_; refine hR.out _ ?_; clear hR R; intro W hW; have hc := hW.cells; have hf := hW.frozens; have hz := hW.size; (try simp at hz))
    clear hlu
    have hBW : Below w.heap.size w W := by (repeat (first | exact Below.refl _ _ | (with_reducible exact Hid.out (by assumption)) | refine below_al ?_ _ | refine below_dr ?_ | refine below_tr ?_ (by assumption) | refine below_tr ?_ (Bel.out (by assumption)) | refine below_tr ?_ (Bel.out (ov_bel _ _)) | refine below_set ?_ (by simp; try omega)))
    have q0 := kept_of_below hBW _ _ p0
    have q1 := kept_of_below hBW _ _ p1
    have q2 := kept_of_below hBW _ _ p2
    have q3 := kept_of_below hBW _ _ p3
    have y0 : W.cell? ⟨w.heap.size, 0, none⟩ = some (.int .i64 i) := (by (try go_simp); (repeat (simp only [↓IntWalk.iteOmega]; (try go_simp))); (try omega))
    have y1 : W.cell? ⟨w.heap.size, 1, none⟩ = some (.int .i64 h) := (by (try go_simp); (repeat (simp only [↓IntWalk.iteOmega]; (try go_simp))); (try omega))
    have hzW := hBW.size
    have hlW := cell_lt y0
    simp only at hlW
    replace hBW := Lib.hid hBW
    clear hc hf hz hW p0 p1 p2 p3 x4 xk
    go_wp2
    refine (wpIn_wide (n := 9)).1 ?_
    (refine wpIn_region_ovP 9 6 (fun _ => trivial) rfl (fun _ _ _ _ h => callsIn_wide.2 h) (by kernel_rfl) rfl (by kernel_rfl) (by kernel_rfl) (fun R hR => ?_); simp only [List.take_succ_cons, List.take_zero]; (repeat (go_big_quiet_step (fail))); refine wpQuiet_nil ?_; refine hR.out _ ?_; clear hR R; intro W hW kk; have hc := hW.cells; have hf := hW.frozens; have hz := hW.size; (try simp at hz))
    (refine wpAnyIn_wantW (i := 9) (by kernel_rfl) rfl (by kernel_rfl) (fun K hK => ?_); go_simp; (repeat (simp only [↓IntWalk.iteOmega]; (try go_simp))); (try go_bits); try (refine hK _ _ ?_; clear hK K))
    (refine ⟨trivial, callsIn_wide.2 (Calls.mono (HRc.out _ (below_tr hBW.out hW.out)) ?_)⟩)
    rintro e w3 ⟨A, cr, rfl, hrow, hlc, hb3⟩
    (dsimp only; refine hK _ _ ?_; clear hK K)
    have hB3 : Below w.heap.size w w3 := below_tr hBW.out (below_tr hW.out hb3)
    have z0 : w3.cell? ⟨w.heap.size, 0, none⟩ = some (.int .i64 i) := kept_of_below (below_tr hW.out hb3) _ _ y0
    have z1 : w3.cell? ⟨w.heap.size, 1, none⟩ = some (.int .i64 h) := kept_of_below (below_tr hW.out hb3) _ _ y1
    clear hb3 hW hc hf hz q0 q1 q2 q3 y0 y1 hzW hlW HRc hBW
    (refine wpAnyIn_restQ 10 (fun _ => trivial) rfl (fun _ _ _ _ h => callsIn_wide.2 h) rfl (j := kk) (by simp only [List.length_drop, List.length_cons, List.length_nil]; omega) (by kernel_rfl) (by kernel_rfl) (by kernel_rfl) (fun R hR => ?_); simp only [List.drop_succ_cons, List.drop_zero]; (repeat (go_big_quiet_step (fail))); refine wpQuiet_nil ?_; refine hR.out _ ?_; clear hR R)
    replace hB3 := Lib.hid hB3
    replace hrow := Lib.hid hrow
    go_wp2
    have hlen := rcTo_len L i k h L.st.length
    have hs1 := OK.out.s1
    have HX : Hid (flN L i k h = flOf (rcTo L i k h L.st.length)) := Lib.hid rfl
    have HMm := Lib.hid (fun x (hx : x ∈ rcTo L i k h L.st.length) => rcTo_mem hx)
    generalize rcTo L i k h L.st.length = xs at *
    go_loop [42, 7] (fun m f => ∃ j : Nat, j ≤ xs.length ∧ m = .int .i64 j ∧ f = .int .u64 (flOf (xs.take j))) (fun m _ => xs.length - (intOf m).toNat)
    case atStart => exact ⟨0, Nat.zero_le _, rfl, rfl⟩
    case round =>
      obtain ⟨j, hj, rfl, rfl⟩ := hrel
      by_cases hlt : j < xs.length
      · have hx := List.getElem?_eq_getElem hlt
        obtain ⟨b, o, hA, e0⟩ := hrow.out.num hx
        have hxb := HMm.out _ (List.getElem_mem hlt)
        have hfl : flOf (xs.take j) < 64 := flOf_lt _ (fun x hx => by have := HMm.out x (List.mem_of_mem_take hx); omega)
        generalize xs[j] = x at *
        subst hA
        have HXj := Lib.hid hx
        clear hx
        have HO := Lib.hid (or_step _ x hfl hxb.1 (by omega))
        go_wp2
        go_round
        case rel => exact ⟨j + 1, by omega, by go_num, by rw [HO.out, List.take_add_one, HXj.out]; simp only [Option.toList_some, flOf_snoc]⟩
        case measure => simp [intOf]; omega
      · have hjx : j = xs.length := by omega
        subst hjx
        have hinv : MapInv w3.drew (rs k) (FlPhi L k) := ((HM.out.below hB3.out) k lk).mono rfl (fun _ _ _ q => q)
        have hphi : FlPhi L k i h (.int .u64 (flOf xs)) := fun i' h' e1 e2 => by
          obtain rfl : i = i' := by omega
          obtain rfl : h = h' := by omega
          rw [HX.out]
        obtain ⟨es, ck, hup, hinv2⟩ := run_update_pair spotKey Try.underlying115 hinv i h _ hphi
        have hM3 : RM w3.drew L rs := fun k' hk' => ((HM.out.below hB3.out) k' hk').mono rfl (fun _ _ _ q => q)
        have hkS : KeepM (MS L rs) w3.drew (setO w3.drew (rs k) (.map es ck)) := KeepM.setO hM3.maps ⟨k, lk, rfl⟩
        have hRM : RM (setO w3.drew (rs k) (.map es ck)) L rs := fun k' hk' => by
          by_cases e : k' = k
          · subst e; exact hinv2
          · have hne : rs k' ≠ rs k := fun he => e (H.out.inj k' k hk' lk he)
            exact (hM3 k' hk').mono (by simp [Proofs.Ytdfohielnfdmkaa.setO, Array.getElem?_setIfInBounds, Ne.symm hne]) (fun _ _ _ q => q)
        have hkW : KeepM (MS L rs) w (setO w3.drew (rs k) (.map es ck)) := (KeepM.of_below HM.out.maps (below_dr hB3.out)).trans hkS
        have x4 := (H.out.below hB3.out).known
        have xk := (H.out.below hB3.out).row k lk
        replace hkW := Lib.hid hkW
        replace hRM := Lib.hid hRM
        clear hinv hphi hinv2 hM3 hkS
        go_wp2
        go_region
        go_wp2
        go_ret
        exact ⟨by rw [HX.out]; rfl, hkW.out, hRM.out⟩
  · replace hphi := Lib.hid (hphi i h rfl rfl)
    rw [show v0 = .int .u64 (flN L i k h) from hphi.out] at hlu
    clear hphi
    have hfn : Hid (flN L i k h < 64) := Lib.hid (flOf_lt _ (fun x hx => by have := rcTo_mem hx; have := OK.out.s1; omega))
    generalize hn : flN L i k h = fl at *
    replace hn := Lib.hid hn
    go_enter Try.func42, Try.ntmps42
    go_wp2
    (refine wp_region_ov (by kernel_rfl) (by kernel_rfl) (fun R hR => ?_); (repeat (go_big_quiet_step (fail))); refine wpQuiet_nil ?_; refine hR.out _ ?_; clear hR R; intro W hW; have hc := hW.cells; have hf := hW.frozens; have hz := hW.size; (try simp at hz))
    go_wp2
    go_ret
    have hBW : Below w.heap.size w W := by (repeat (first | exact Below.refl _ _ | (with_reducible exact Hid.out (by assumption)) | refine below_al ?_ _ | refine below_dr ?_ | refine below_tr ?_ (by assumption) | refine below_tr ?_ (Bel.out (by assumption)) | refine below_tr ?_ (Bel.out (ov_bel _ _)) | refine below_set ?_ (by simp; try omega)))
    exact ⟨by rw [hn.out]; rfl, .of_below HM.out.maps hBW, HM.out.below hBW⟩
end Go.Proofs.Ytdfohielnfdmkaa

/- Walks: package relay: the iterator over a set of stations. -/
set_option linter.unusedVariables false
set_option linter.unusedSimpArgs false
namespace Go.Proofs.Ytdfohielnfdmkaa
open Go.RowKit
attribute [local go_sem low] cell_alloc_ite frozen_alloc_ite ov_cell ov_frozen cell_alloc_map frozen_alloc_map
attribute [local go_sem] Oper.semAt_some

/-- A station of a set. -/
abbrev BitOf (fl : Nat) := { x : Nat // fl.testBit x = true }
/-- The stations of a set, the lower ones first. -/
def bitsTo (fl m : Nat) : List Nat := (List.range m).filter fun j => fl.testBit j
theorem bitsTo_succ (fl m : Nat) : bitsTo fl (m + 1) = bitsTo fl m ++ if fl.testBit m then [m] else [] := by
  unfold bitsTo
  rw [List.range_succ, List.filter_append]
  congr 1
  by_cases h : fl.testBit m = true <;> simp [h]
theorem bitsTo_le (fl m : Nat) : ∀ d, fl < 2 ^ m → bitsTo fl (m + d) = bitsTo fl m
  | 0, _ => rfl
  | d + 1, h => by
    rw [show m + (d + 1) = (m + d) + 1 by omega, bitsTo_succ, bitsTo_le fl m d h, Nat.testBit_lt_two_pow (Nat.lt_of_lt_of_le h (Nat.pow_le_pow_right (by omega) (by omega)))]
    simp
theorem and_one (fl m : Nat) (h : fl < 64) : bits BinOp.and IntKind.u64 ((fl : Int) / 2 ^ m) 1 = if fl.testBit m then 1 else 0 := by
  have e : (fl : Int) / 2 ^ m = ((fl / 2 ^ m : Nat) : Int) := by
    rw [Int.natCast_ediv]
    congr 1
  have hd : fl / 2 ^ m ≤ fl := Nat.div_le_self _ _
  rw [e, show (1 : Int) = ((1 : Nat) : Int) from rfl, bits_and_u64_nat _ _ (by omega) (by omega), Nat.and_one_is_mod, Nat.testBit_eq_decide_div_mod_eq]
  by_cases h2 : fl / 2 ^ m % 2 = 1
  · simp [h2]
  · have : fl / 2 ^ m % 2 = 0 := by omega
    simp [this]
theorem shr_zero (fl m : Nat) : ((fl : Int) / 2 ^ m != 0) = !decide (fl < 2 ^ m) := by
  have e : (fl : Int) / 2 ^ m = ((fl / 2 ^ m : Nat) : Int) := by
    rw [Int.natCast_ediv]
    congr 1
  rw [e, Bool.eq_iff_iff]
  have hp : 0 < 2 ^ m := Nat.pow_pos (by omega)
  have hq : fl / 2 ^ m = 0 ↔ fl < 2 ^ m := by rw [Nat.div_eq_zero_iff]; omega
  simp only [bne_iff_ne, ne_eq, Bool.not_eq_true', decide_eq_false_iff_not]
  rw [← hq]
  omega
/-- The box of the iterator is kept. -/
def KpB (b : Nat) (W W' : World) : Prop := ∀ v, W.cell? ⟨b, 0, none⟩ = some v → W'.cell? ⟨b, 0, none⟩ = some v
theorem kpB_t {b : Nat} {A B C : World} (h : KpB b A B) (k : KpB b B C) : KpB b A C := fun v hv => k v (h v hv)
theorem kpB_b {b : Nat} (W : World) (l : Nat) (o o' : Obj) (h : W.heap[l]? = some o) (hc : o.isCells = false) : KpB b W (W.putObj l o') :=
  fun v hv => kept_grown (grownBy_putObj' W l o') (fun r e => by cases e; exact ⟨_, h, hc⟩) _ _ hv
theorem kpB_kept {b : Nat} {W W' : World} (h : Kept W W') : KpB b W W' := fun v hv => h _ _ hv

theorem each_any (fl : Nat) (w : World) :
    Calls Try.prog 43 #[.int .u64 fl] w fun e w' => e = .returned (.func (.func 54) #[] #[.pointer (some ⟨w.heap.size, 0, none⟩)]) ∧ w' = w.alloc (.cells #[.int .u64 fl] 108) := by
  go_enter Try.func43, Try.ntmps43
  go_wp2
  go_ret
  exact ⟨rfl, rfl⟩

set_option maxHeartbeats 4000000 in
theorem each_stops (fl b0 : Nat) (w : World) (hfl : fl < 64) (hb : w.cell? ⟨b0, 0, none⟩ = some (.int .u64 fl)) (n : Nat) :
    SeqStopsK Fence.wide n Try.prog 54 #[.pointer (some ⟨b0, 0, none⟩)] (fun x : BitOf fl => #[.int .i64 (x.1 : Int)]) (KpB b0)
      (fun ys => ys.map (·.1) = bitsTo fl 6) (fun _ => True) 6 w := fun l J Jx W0 hW0 hJ hJx hY h0 => by
  have q0 := kept_of_below hW0 _ _ hb
  replace hY := Lib.hid hY
  replace hJ := Lib.hid hJ
  replace hJx := Lib.hid hJx
  replace h0 := Lib.hid h0
  clear hb
  (refine callsIn_of_wp Try.func54 rfl trivial ?_ rfl; simp only [Try.ntmps54, List.size_toArray, List.length_cons, List.length_nil, Nat.reduceAdd, Nat.reduceSub, Array.replicate_succ, Array.replicate_zero, List.push_toArray, List.append_toArray, List.nil_append, List.cons_append])
  gi_wp2
  gi_loopw [3] (fun v wr => ∃ (m : Nat) (pre : List (BitOf fl)), m ≤ 6 ∧ v = .int .i64 m ∧ pre.map (·.1) = bitsTo fl m ∧ pre.length ≤ m ∧ J pre wr ∧ wr.cell? ⟨b0, 0, none⟩ = some (.int .u64 fl)) (fun v _ => 7 - (intOf v).toNat)
  case atStart => exact ⟨0, [], by omega, rfl, rfl, Nat.le_refl _, h0.out, q0⟩
  case round =>
    clear q0
    obtain ⟨m, pre, hm, rfl, hpre, hpl, hjp, q0⟩ := hrel
    replace hjp := Lib.hid hjp
    replace hpre := Lib.hid hpre
    have ht := shr_zero fl m
    have ha := and_one fl m hfl
    by_cases hlt : fl < 2 ^ m
    · rw [show decide (fl < 2 ^ m) = true by simpa using hlt] at ht
      have HS : Hid (bitsTo fl m = bitsTo fl 6) := Lib.hid (by have := bitsTo_le fl m (6 - m) hlt; rw [show m + (6 - m) = 6 by omega] at this; exact this.symm)
      clear ha hlt
      simp only [Bool.not_true] at ht
      gi_wp2
      go_end0
      exact ⟨⟨_, rfl⟩, .inl ⟨pre, by rw [← HS.out]; exact hpre.out, hjp.out⟩⟩
    · rw [show decide (fl < 2 ^ m) = false by simpa using hlt] at ht
      have hm6 : m < 6 := by
        rcases Nat.lt_or_ge m 6 with h | h
        · exact h
        · exact absurd (Nat.lt_of_lt_of_le (show fl < 2 ^ 6 from hfl) (Nat.pow_le_pow_right (by omega) h)) hlt
      clear hlt
      simp only [Bool.not_false] at ht
      cases hbit : fl.testBit m with
      | true =>
        simp only [hbit, if_true] at ha
        obtain ⟨fn, tmps, assign, body, hy, hR⟩ := hY.out pre ⟨m, hbit⟩ wr hjp.out (by omega)
        dsimp only at hy
        have hbit' := Lib.hid hbit
        gi_wp2
        refine ⟨fun h => by simp [Fence.wide] at h, hR.mono ?_⟩
        rintro e W' (⟨rfl, hJ', hk'⟩ | ⟨rfl, hJx'⟩)
        · have q1 := hk' _ q0
          replace hJ' := Lib.hid hJ'
          clear q0 hk' hy hR
          gi_wp2
          go_roundw
          case rel => exact ⟨m + 1, pre ++ [⟨m, hbit'.out⟩], by omega, by go_num, by rw [bitsTo_succ, if_pos hbit'.out, List.map_append, hpre.out]; rfl, by simp; omega, hJ'.out, q1⟩
          case measure => simp [intOf]; omega
        · replace hJx' := Lib.hid hJx'
          clear q0 hy hR
          gi_wp2
          refine bodyPost_ret (results_none rfl _ _ _) rfl ?_
          exact ⟨⟨_, rfl⟩, .inr ⟨_, trivial, hJx'.out⟩⟩
      | false =>
        simp only [hbit, Bool.false_eq_true, if_false] at ha
        have hbit' := Lib.hid hbit
        clear hbit
        gi_wp2
        refine ⟨fun _ h => (by cases h), ?_⟩
        gi_wp2
        go_roundw
        case rel => exact ⟨m + 1, pre, by omega, by go_num, by rw [bitsTo_succ, hbit'.out]; simpa using hpre.out, by omega, hjp.out, q0⟩
        case measure => simp [intOf]; omega
end Go.Proofs.Ytdfohielnfdmkaa

