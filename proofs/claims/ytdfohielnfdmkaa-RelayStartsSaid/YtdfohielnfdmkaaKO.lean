/- Part KO of the proof: R16 · R17 · R18 · R19. -/
import Derived.OwnWalkIn
import Derived.Test.YtdfohielnfdmkaaKN
set_option linter.unusedVariables false
set_option linter.unusedSimpArgs false
/- Walks: package relay: the best path from a spot. -/
set_option linter.unusedVariables false
set_option linter.unusedSimpArgs false
namespace Go.Proofs.Ytdfohielnfdmkaa
open Go.RowKit
attribute [local go_sem low] cell_alloc_ite frozen_alloc_ite ov_cell ov_frozen cell_alloc_map frozen_alloc_map
attribute [local go_sem] Oper.semAt_some

/-- A hop ahead of a path, if it is before the best one so far. -/
def stepB (s h b : Nat) (x acc : Option (List Hp)) : Option (List Hp) :=
  match x with
  | none => acc
  | some l => if betB (some (⟨s, b, h⟩ :: l)) acc then some (⟨s, b, h⟩ :: l) else acc
/-- The best path from a station, d hours ahead of the hour by. -/
def bestN (L : Lnd) (dst by_ : Nat) : Nat → Nat → Option (List Hp)
  | 0, s => if s = dst then some [] else none
  | d + 1, s => if s = dst then some [] else (bitsTo (alN L s (by_ - (d + 1))) 6).foldl (fun acc b => stepB s (by_ - (d + 1)) b (bestN L dst by_ d b) acc) (bestN L dst by_ d s)
theorem stepB_len {s h b d : Nat} {x acc : Option (List Hp)} (hx : ∀ l, x = some l → l.length ≤ d) (ha : ∀ l, acc = some l → l.length ≤ d + 1) : ∀ l, stepB s h b x acc = some l → l.length ≤ d + 1 := by
  intro l hl
  unfold stepB at hl
  cases x with
  | none => exact ha l hl
  | some y =>
    simp only at hl
    split at hl
    · cases hl; have := hx y rfl; simp; omega
    · exact ha l hl
theorem fold_len {s h d : Nat} {g : Nat → Option (List Hp)} (hg : ∀ b l, g b = some l → l.length ≤ d) : ∀ (bs : List Nat) (acc : Option (List Hp)), (∀ l, acc = some l → l.length ≤ d + 1) → ∀ l, bs.foldl (fun acc b => stepB s h b (g b) acc) acc = some l → l.length ≤ d + 1 := by
  intro bs
  induction bs with
  | nil => intro acc ha l hl; exact ha l hl
  | cons b bs ih => intro acc ha l hl; exact ih _ (stepB_len (hg b) ha) l hl
theorem bestN_len {L : Lnd} {dst by_ : Nat} : ∀ (d s : Nat) (l : List Hp), bestN L dst by_ d s = some l → l.length ≤ d
  | 0, s, l, h => by
    unfold bestN at h
    split at h
    · cases h; simp
    · cases h
  | d + 1, s, l, h => by
    unfold bestN at h
    split at h
    · cases h; simp
    · exact fold_len (fun b l hl => bestN_len d b l hl) _ _ (fun l hl => by have := bestN_len d s l hl; omega) l h

/-- What is stored of a spot. -/
def PatPhi (w : World) (L : Lnd) (dst by_ : Nat) (s h : Int) (v : Value) : Prop := ∀ s' d : Nat, s = s' → h + d = by_ → PathAt w v (bestN L dst by_ d s')
theorem PatPhi.kept {w w' : World} {L : Lnd} {dst by_ : Nat} {s h : Int} {v : Value} (q : PatPhi w L dst by_ s h v) (hk : Kept w w') : PatPhi w' L dst by_ s h v := fun s' d e1 e2 => (q s' d e1 e2).kept hk
/-- The maps that 'find' writes. -/
def MS1 (L : Lnd) (rs : Nat → Nat) (rk : Nat) (i : Nat) : Prop := MS L rs i ∨ i = rk
theorem KeepM.wide {L : Lnd} {rs : Nat → Nat} {rk : Nat} {w w' : World} (h : KeepM (MS L rs) w w') (hm : ∃ es c, w.heap[rk]? = some (.map es c)) : KeepM (MS1 L rs rk) w w' := by
  refine ⟨h.os, h.tape, h.output, h.size, fun k hk hn => h.block k hk (fun hs => hn (.inl hs)), fun k hk => ?_, fun k hk => ?_⟩
  · rcases hk with hk | rfl
    · exact h.old k hk
    · exact hm
  · rcases hk with hk | rfl
    · exact h.new k hk
    · by_cases hs : MS L rs k
      · exact h.new k hs
      · obtain ⟨es, c, he⟩ := hm
        exact ⟨es, c, (h.block k (Array.getElem?_eq_some_iff.1 he).1 hs).trans he⟩
/-- The world of 'find': its boxes. -/
structure FW (w : World) (p kb kc : Nat) (V : LV) (L : Lnd) (rs : Nat → Nat) (bT bB bK bF bW rk dst by_ : Nat) : Prop where
  rw : RW w p kb kc V L rs
  rm : RM w L rs
  cT : w.cell? ⟨bT, 0, none⟩ = some (.int .i64 dst)
  cB : w.cell? ⟨bB, 0, none⟩ = some (.int .i64 by_)
  cK : w.cell? ⟨bK, 0, none⟩ = some (.map (some rk))
  cF : w.cell? ⟨bF, 0, none⟩ = some (.func (.func 48) #[] #[.pointer (some ⟨bT, 0, none⟩), .pointer (some ⟨bB, 0, none⟩), .pointer (some ⟨bK, 0, none⟩), .pointer (some ⟨bF, 0, none⟩), .pointer (some ⟨bW, 0, none⟩)])
  cW : w.cell? ⟨bW, 0, none⟩ = some (.pointer (some ⟨p, 0, none⟩))
  map : MapInv w rk (PatPhi w L dst by_)
  ne : ∀ k, k < L.ca.length → rs k ≠ rk
theorem FW.maps {w : World} {p kb kc : Nat} {V : LV} {L : Lnd} {rs : Nat → Nat} {bT bB bK bF bW rk dst by_ : Nat} (h : FW w p kb kc V L rs bT bB bK bF bW rk dst by_) : MapsOf (MS1 L rs rk) w := fun k hk => by
  rcases hk with hk | rfl
  · exact h.rm.maps k hk
  · obtain ⟨es, c, he, _⟩ := h.map; exact ⟨es, c, he⟩
theorem FW.keep {w w' : World} {p kb kc : Nat} {V : LV} {L : Lnd} {rs : Nat → Nat} {bT bB bK bF bW rk dst by_ : Nat} (h : FW w p kb kc V L rs bT bB bK bF bW rk dst by_) (hk : KeepM (MS1 L rs rk) w w') (hr : RM w' L rs) (hm : MapInv w' rk (PatPhi w' L dst by_)) :
    FW w' p kb kc V L rs bT bB bK bF bW rk dst by_ :=
  ⟨h.rw.keep hk, hr, hk.kept _ _ h.cT, hk.kept _ _ h.cB, hk.kept _ _ h.cK, hk.kept _ _ h.cF, hk.kept _ _ h.cW, hm, h.ne⟩
theorem FW.below {w w' : World} {p kb kc : Nat} {V : LV} {L : Lnd} {rs : Nat → Nat} {bT bB bK bF bW rk dst by_ : Nat} (h : FW w p kb kc V L rs bT bB bK bF bW rk dst by_) (hb : Below w.heap.size w w') :
    FW w' p kb kc V L rs bT bB bK bF bW rk dst by_ :=
  h.keep (.of_below h.maps hb) (h.rm.below hb) (h.map.mono (hb.block _ (h.maps.lt (.inr rfl))) (fun _ _ _ q => q.kept (kept_of_below hb)))
/-- What 'find' gives. -/
def FindMade (L : Lnd) (rs : Nat → Nat) (rk dst by_ d s : Nat) (w : World) (e : Ending) (w' : World) : Prop :=
  ∃ v, e = .returned v ∧ PathAt w' v (bestN L dst by_ d s) ∧ KeepM (MS1 L rs rk) w w' ∧ RM w' L rs ∧ MapInv w' rk (PatPhi w' L dst by_)
theorem PathAt.form {w : World} {v : Value} {o : Option (List Hp)} (h : PathAt w v o) : ∃ A n c f, v = .agg #[.slice A n c, .bool f] := by
  cases o with
  | none => exact ⟨_, _, _, _, h⟩
  | some l => obtain ⟨A, c, e, _⟩ := h; exact ⟨_, _, _, _, e⟩
/-- A box of a path. -/
structure PB (w : World) (b : Nat) (x y : Value) : Prop where
  c0 : w.cell? ⟨b, 0, none⟩ = some x
  c1 : w.cell? ⟨b, 1, none⟩ = some y
  f0 : w.frozen? ⟨b, 0, none⟩ = false
  f1 : w.frozen? ⟨b, 1, none⟩ = false
theorem PB.lt {w : World} {b : Nat} {x y : Value} (h : PB w b x y) : b < w.heap.size := cell_lt h.c0
theorem PB.below {w w' : World} {b : Nat} {x y : Value} (h : PB w b x y) (hb : Below w.heap.size w w') : PB w' b x y :=
  ⟨kept_of_below hb _ _ h.c0, kept_of_below hb _ _ h.c1, (hb.frozen (p := ⟨b, 0, none⟩) h.lt).trans h.f0, (hb.frozen (p := ⟨b, 1, none⟩) h.lt).trans h.f1⟩
theorem PB.keep {S : Nat → Prop} {w w' : World} {b : Nat} {x y : Value} (h : PB w b x y) (hb : KeepM S w w') : PB w' b x y :=
  ⟨hb.kept _ _ h.c0, hb.kept _ _ h.c1, (hb.frozens b 0).trans ((if_pos h.lt).trans h.f0), (hb.frozens b 1).trans ((if_pos h.lt).trans h.f1)⟩
theorem PB.calm {n : Nat} {w w' : World} {b : Nat} {x y : Value} (h : PB w b x y) (hc : Calm n w w') : PB w' b x y :=
  ⟨hc.kept _ _ h.c0, hc.kept _ _ h.c1, (hc.froz _ _ _ h.c0).trans h.f0, (hc.froz _ _ _ h.c1).trans h.f1⟩
theorem PB.set {w : World} {b : Nat} {x y : Value} (h : PB w b x y) (x' y' : Value) : PB ((w.setCell ⟨b, 0, none⟩ x').setCell ⟨b, 1, none⟩ y') b x' y' := by
  have hc : (w.setCell ⟨b, 0, none⟩ x').cell? ⟨b, 1, none⟩ = some y := (World.cell?_setCell_other _ _ _ _ (by intro e; cases e)).trans h.c1
  exact ⟨(World.cell?_setCell_other _ _ _ _ (by intro e; cases e)).trans (cell_set h.c0 _), cell_set hc _, by rw [World.frozen?_setCell, World.frozen?_setCell]; exact h.f0, by rw [World.frozen?_setCell, World.frozen?_setCell]; exact h.f1⟩
theorem PB.other {w : World} {b : Nat} {x y : Value} (h : PB w b x y) {a : Addr} (ha : a.block ≠ b) (v : Value) : PB (w.setCell a v) b x y :=
  ⟨(World.cell?_setCell_other _ _ _ _ (by intro e; rw [e] at ha; exact ha rfl)).trans h.c0, (World.cell?_setCell_other _ _ _ _ (by intro e; rw [e] at ha; exact ha rfl)).trans h.c1, by rw [World.frozen?_setCell]; exact h.f0, by rw [World.frozen?_setCell]; exact h.f1⟩
/-- Every cell that holds an int holds the same behind it. -/
def KeptN (w w' : World) : Prop := ∀ (a : Addr) (n : Int), w.cell? a = some (.int .i64 n) → w'.cell? a = some (.int .i64 n)
theorem KeptN.of {w w' : World} (h : Kept w w') : KeptN w w' := fun a n hv => h _ _ hv
theorem KeptN.trans {a b c : World} (h : KeptN a b) (k : KeptN b c) : KeptN a c := fun p n hv => k p n (h p n hv)
theorem KeptN.set {w : World} {p : Addr} {x v : Value} (h : w.cell? p = some x) (hx : ∀ n, x ≠ .int .i64 n) : KeptN w (w.setCell p v) := fun a n hv => by
  have hne : p ≠ a := fun e => by subst e; rw [h] at hv; cases hv; exact hx n rfl
  exact (World.cell?_setCell_other _ _ _ _ hne).trans hv
theorem PathAt.keptN {w w' : World} {v : Value} {o : Option (List Hp)} (h : PathAt w v o) (hk : KeptN w w') : PathAt w' v o := by
  cases o with
  | none => exact h
  | some l =>
    obtain ⟨A, c, e, hr, hl⟩ := h
    refine ⟨A, c, e, fun i x hx => ?_, hl⟩
    obtain ⟨b, o, hA, hc⟩ := hr i x hx
    refine ⟨b, o, hA, fun j v hv => ?_⟩
    have := hc j v hv
    match j, hv with
    | 0, hv => cases hv; exact hk _ _ this
    | 1, hv => cases hv; exact hk _ _ this
    | 2, hv => cases hv; exact hk _ _ this
theorem PatPhi.keptN {w w' : World} {L : Lnd} {dst by_ : Nat} {s h : Int} {v : Value} (q : PatPhi w L dst by_ s h v) (hk : KeptN w w') : PatPhi w' L dst by_ s h v := fun s' d e1 e2 => (q s' d e1 e2).keptN hk
/-- A box of a path, as the path that it holds. -/
def PBox (w : World) (b : Nat) (acc : Option (List Hp)) : Prop := ∃ A n c f, PB w b (.slice A n c) (.bool f) ∧ PathAt w (.agg #[.slice A n c, .bool f]) acc
/-- Within 'find': its boxes; the best path so far. -/
structure Fst (w : World) (L : Lnd) (rs : Nat → Nat) (rk dst by_ s h : Nat) (acc : Option (List Hp)) (W : World) : Prop where
  km : KeepM (MS1 L rs rk) w W
  rm : RM W L rs
  map : MapInv W rk (PatPhi W L dst by_)
  s0 : W.cell? ⟨w.heap.size, 0, none⟩ = some (.int .i64 s)
  s1 : W.cell? ⟨w.heap.size, 1, none⟩ = some (.int .i64 h)
  pr : ∃ A n c f, PB W (w.heap.size + 1) (.slice A n c) (.bool f)
  pb : PBox W (w.heap.size + 1 + 1) acc
theorem Fst.keep {w W W' : World} {L : Lnd} {rs : Nat → Nat} {rk dst by_ s h : Nat} {acc : Option (List Hp)} (q : Fst w L rs rk dst by_ s h acc W) (hk : KeepM (MS1 L rs rk) W W') (hr : RM W' L rs) (hm : MapInv W' rk (PatPhi W' L dst by_)) : Fst w L rs rk dst by_ s h acc W' :=
  ⟨q.km.trans hk, hr, hm, hk.kept _ _ q.s0, hk.kept _ _ q.s1, (let ⟨A, n, c, f, e⟩ := q.pr; ⟨A, n, c, f, e.keep hk⟩), (let ⟨A, n, c, f, e1, e2⟩ := q.pb; ⟨A, n, c, f, e1.keep hk, e2.kept hk.kept⟩)⟩
theorem Fst.mapsW {w W : World} {L : Lnd} {rs : Nat → Nat} {rk dst by_ s h : Nat} {acc : Option (List Hp)} (q : Fst w L rs rk dst by_ s h acc W) : MapsOf (MS1 L rs rk) W := fun k hk => q.km.new k hk
theorem Fst.below {w W W' : World} {L : Lnd} {rs : Nat → Nat} {rk dst by_ s h : Nat} {acc : Option (List Hp)} (q : Fst w L rs rk dst by_ s h acc W) (hb : Below W.heap.size W W') : Fst w L rs rk dst by_ s h acc W' :=
  q.keep (.of_below q.mapsW hb) (q.rm.below hb) (q.map.mono (hb.block _ (q.mapsW.lt (.inr rfl))) (fun _ _ _ e => e.kept (kept_of_below hb)))
/-- A change above w that lets every cell be. -/
theorem Fst.calm {n : Nat} {w W W' : World} {L : Lnd} {rs : Nat → Nat} {rk dst by_ s h : Nat} {acc : Option (List Hp)} (hm : MapsOf (MS1 L rs rk) w) (q : Fst w L rs rk dst by_ s h acc W) (hc : Calm n W W') (hn : w.heap.size ≤ n) : Fst w L rs rk dst by_ s h acc W' := by
  have hb := hc.below.mono hn
  exact ⟨q.km.trB hb, q.rm.trB (fun k hk => hm.lt (.inl ⟨k, hk, rfl⟩)) hb, q.map.mono (hb.block _ (hm.lt (.inr rfl))) (fun _ _ _ e => e.kept hc.kept), hc.kept _ _ q.s0, hc.kept _ _ q.s1, (let ⟨A, n, c, f, e⟩ := q.pr; ⟨A, n, c, f, e.calm hc⟩), (let ⟨A, n, c, f, e1, e2⟩ := q.pb; ⟨A, n, c, f, e1.calm hc, e2.kept hc.kept⟩)⟩
/-- A path is written into the box of the best one. -/
theorem Fst.set {w W : World} {L : Lnd} {rs : Nat → Nat} {rk dst by_ s h : Nat} {acc acc' : Option (List Hp)} {A : Option Addr} {n c : Nat} {f : Bool} (hm : MapsOf (MS1 L rs rk) w) (q : Fst w L rs rk dst by_ s h acc W) (hp : PathAt W (.agg #[.slice A n c, .bool f]) acc') :
    Fst w L rs rk dst by_ s h acc' ((W.setCell ⟨w.heap.size + 1 + 1, 0, none⟩ (.slice A n c)).setCell ⟨w.heap.size + 1 + 1, 1, none⟩ (.bool f)) := by
  obtain ⟨A0, n0, c0, f0, e1, _⟩ := q.pb
  have hb : Below w.heap.size W ((W.setCell ⟨w.heap.size + 1 + 1, 0, none⟩ (.slice A n c)).setCell ⟨w.heap.size + 1 + 1, 1, none⟩ (.bool f)) := ((Below.refl _ _).setCell (by simp only; omega) _).setCell (by simp only; omega) _
  have hc1 : (W.setCell ⟨w.heap.size + 1 + 1, 0, none⟩ (.slice A n c)).cell? ⟨w.heap.size + 1 + 1, 1, none⟩ = some (.bool f0) := (World.cell?_setCell_other _ _ _ _ (by intro e; cases e)).trans e1.c1
  have hN : KeptN W ((W.setCell ⟨w.heap.size + 1 + 1, 0, none⟩ (.slice A n c)).setCell ⟨w.heap.size + 1 + 1, 1, none⟩ (.bool f)) := (KeptN.set e1.c0 (fun n e => by cases e)).trans (KeptN.set hc1 (fun n e => by cases e))
  exact ⟨q.km.trB hb, q.rm.trB (fun k hk => hm.lt (.inl ⟨k, hk, rfl⟩)) hb, q.map.mono (hb.block _ (hm.lt (.inr rfl))) (fun _ _ _ e => e.keptN hN), hN _ _ q.s0, hN _ _ q.s1, (let ⟨A, n, c, f, e⟩ := q.pr; ⟨A, n, c, f, (e.other (by simp only; omega) _).other (by simp only; omega) _⟩), A, n, c, f, e1.set _ _, hp.keptN hN⟩
theorem Fst.fw {w W : World} {p kb kc : Nat} {V : LV} {L : Lnd} {rs : Nat → Nat} {bT bB bK bF bW rk dst by_ s h : Nat} {acc : Option (List Hp)} (q : Fst w L rs rk dst by_ s h acc W) (hw : FW w p kb kc V L rs bT bB bK bF bW rk dst by_) : FW W p kb kc V L rs bT bB bK bF bW rk dst by_ := hw.keep q.km q.rm q.map
/-- Within the range: the stations pre have come. -/
def RgF (w wl : World) (L : Lnd) (rs : Nat → Nat) (rk dst by_ s h d fl : Nat) (pre : List (BitOf fl)) (W : World) : Prop :=
  wl.heap.size ≤ W.heap.size ∧ Fst w L rs rk dst by_ s h ((pre.map (·.1)).foldl (fun acc b => stepB s h b (bestN L dst by_ d b) acc) (bestN L dst by_ d s)) W
theorem keepsFrom_below {B : Nat} {W W' : World} (hb : Below W.heap.size W W') : KeepsFrom B W W' := ⟨hb.size, fun i o _ hi _ => (hb.block i (Array.getElem?_eq_some_iff.1 hi).1).trans hi⟩
theorem keepsFrom_keepM {S : Nat → Prop} {B : Nat} {W W' : World} (hk : KeepM S W W') (hS : ∀ i, S i → i < B) : KeepsFrom B W W' :=
  ⟨hk.size, fun i o hB hi _ => (hk.block i (Array.getElem?_eq_some_iff.1 hi).1 (fun hs => by have := hS i hs; omega)).trans hi⟩
theorem call_round {l n : Nat} {P : Program} {f : FuncId} {args : Array Value} {w : World} {R : Ending → World → Prop} (h : Calls P f args w R) : CallsIn (Fence.wide.inRound l) n P f args w R := CallsIn.inRound l (callsIn_wide.2 h)
theorem wpListIn_append_run {F : Fence} {n : Nat} {P : Program} (w : World) {ops : Array Oper} {rest : List Oper} {o : Oper} {a : Act} {Q : Exit → Act → World → Prop}
    (hg : o.guard = none) (s x : Operand) (t : TypeId) (hop : o.op = Op.call { callee := Callee.builtin Builtin.append, args := #[s, x], argTypes := #[t, t] })
    (u v : Value) (hs : a.eval s = u) (hx : a.eval x = v) (v' : Value) (w' : World) (hrun : (Builtin.append_ #[t, t] o.type #[u, v]).run P w = .ok v' w') (hK : wpListIn F n P ops Q rest (a.put o.dst v') w') :
    wpListIn F n P ops Q (o :: rest) a w := by
  refine wpListIn_plain hg fun K hK' => ?_
  unfold Oper.wpIn
  refine ⟨?_, ?_⟩
  · simp [Oper.about, hop, resolve, Target.leads, Sem.run_pure]
  · rw [Oper.semAt_plain F _ _ (by rw [hop]; intro c hc'; cases hc')]
    simp [execOp, hop, resolve, invoke, builtin, hs, hx, hrun, Result.andThen]
    exact hK' _ _ hK
theorem zeroPath (w : World) : (zeroValue 90).run Try.prog w = .ok (.agg #[.slice none (0 : Nat) (0 : Nat), .bool false]) w := by kernel_rfl

set_option maxRecDepth 100000 in
set_option maxHeartbeats 8000000 in
theorem find_any (p kb kc : Nat) (V : LV) (L : Lnd) (rs : Nat → Nat) (bT bB bK bF bW rk dst by_ : Nat) (ok : Okay L) (lb : by_ ≤ L.su.length) : ∀ (d s h : Nat) (w : World), FW w p kb kc V L rs bT bB bK bF bW rk dst by_ → s < L.st.length → h + d = by_ →
    Calls Try.prog 48 #[.agg #[.int .i64 s, .int .i64 h], .pointer (some ⟨bT, 0, none⟩), .pointer (some ⟨bB, 0, none⟩), .pointer (some ⟨bK, 0, none⟩), .pointer (some ⟨bF, 0, none⟩), .pointer (some ⟨bW, 0, none⟩)] w (FindMade L rs rk dst by_ d s w) := by
  intro d
  induction d with
  | zero =>
    intro s h w hw ls hd
    have xT := hw.cT
    have xB := hw.cB
    have lT := cell_lt xT
    have lB := cell_lt xB
    simp only at lT lB
    have HW := Lib.hid hw
    clear hw
    obtain rfl : h = by_ := by omega
    by_cases hsd : s = dst
    · have hb : Hid (bestN L dst h 0 s = some []) := Lib.hid (by unfold bestN; rw [if_pos hsd])
      subst hsd
      (refine (callsIn_wide (n := 9)).1 ?_; refine callsIn_of_wp_marks Try.func48 rfl trivial (wpIn_wide.2 ?_) rfl; simp only [Try.ntmps48, List.size_toArray, List.length_cons, List.length_nil, Nat.reduceAdd, Nat.reduceSub, Array.replicate_succ, Array.replicate_zero, List.push_toArray, List.append_toArray, List.nil_append, List.cons_append])
      go_wp2
      have hB : Below w.heap.size w ((w.alloc (.cells #[.int .i64 s, .int .i64 h] 93)).alloc (.cells #[.slice none (0 : Nat) (0 : Nat), .bool true] 90)) := by (repeat (first | exact Below.refl _ _ | (with_reducible exact Hid.out (by assumption)) | refine below_al ?_ _ | refine below_dr ?_ | refine below_tr ?_ (by assumption) | refine below_tr ?_ (Bel.out (by assumption)) | refine below_tr ?_ (Bel.out (ov_bel _ _)) | refine below_set ?_ (by simp; try omega)))
      exact retM (.agg #[.slice none (0 : Nat) (0 : Nat), .bool true]) (by simp [results, Try.results48, go_sem]) ⟨_, rfl, by rw [hb.out]; exact ⟨none, 0, rfl, RowAt.nil _ _ _ _, Nat.le_refl _⟩, .of_below HW.out.maps hB, (HW.out.below hB).rm, (HW.out.below hB).map⟩
    · have hb : Hid (bestN L dst h 0 s = none) := Lib.hid (by unfold bestN; rw [if_neg hsd])
      (refine (callsIn_wide (n := 9)).1 ?_; refine callsIn_of_wp_marks Try.func48 rfl trivial (wpIn_wide.2 ?_) rfl; simp only [Try.ntmps48, List.size_toArray, List.length_cons, List.length_nil, Nat.reduceAdd, Nat.reduceSub, Array.replicate_succ, Array.replicate_zero, List.push_toArray, List.append_toArray, List.nil_append, List.cons_append])
      go_wp2
      have hB : Below w.heap.size w ((w.alloc (.cells #[.int .i64 s, .int .i64 h] 93)).alloc (.cells #[.slice none (0 : Nat) (0 : Nat), .bool false] 90)) := by (repeat (first | exact Below.refl _ _ | (with_reducible exact Hid.out (by assumption)) | refine below_al ?_ _ | refine below_dr ?_ | refine below_tr ?_ (by assumption) | refine below_tr ?_ (Bel.out (by assumption)) | refine below_tr ?_ (Bel.out (ov_bel _ _)) | refine below_set ?_ (by simp; try omega)))
      exact retM (.agg #[.slice none (0 : Nat) (0 : Nat), .bool false]) (by simp [results, Try.results48, go_sem]) ⟨_, rfl, by rw [hb.out]; rfl, .of_below HW.out.maps hB, (HW.out.below hB).rm, (HW.out.below hB).map⟩
  | succ d ih =>
    intro s h w hw ls hd
    have xT := hw.cT
    have xB := hw.cB
    have xK := hw.cK
    have xF := hw.cF
    have xW := hw.cW
    have lT := cell_lt xT
    have lB := cell_lt xB
    have lK := cell_lt xK
    have lF := cell_lt xF
    have lW := cell_lt xW
    have hu1 := ok.u1
    have hs1 := ok.s1
    simp only at lT lB lK lF lW
    have HW := Lib.hid hw
    clear hw
    by_cases hsd : s = dst
    · have hb : Hid (bestN L dst by_ (d + 1) s = some []) := Lib.hid (by unfold bestN; rw [if_pos hsd])
      subst hsd
      (refine (callsIn_wide (n := 9)).1 ?_; refine callsIn_of_wp_marks Try.func48 rfl trivial (wpIn_wide.2 ?_) rfl; simp only [Try.ntmps48, List.size_toArray, List.length_cons, List.length_nil, Nat.reduceAdd, Nat.reduceSub, Array.replicate_succ, Array.replicate_zero, List.push_toArray, List.append_toArray, List.nil_append, List.cons_append])
      go_wp2
      have hB : Below w.heap.size w ((w.alloc (.cells #[.int .i64 s, .int .i64 h] 93)).alloc (.cells #[.slice none (0 : Nat) (0 : Nat), .bool true] 90)) := by (repeat (first | exact Below.refl _ _ | (with_reducible exact Hid.out (by assumption)) | refine below_al ?_ _ | refine below_dr ?_ | refine below_tr ?_ (by assumption) | refine below_tr ?_ (Bel.out (by assumption)) | refine below_tr ?_ (Bel.out (ov_bel _ _)) | refine below_set ?_ (by simp; try omega)))
      exact retM (.agg #[.slice none (0 : Nat) (0 : Nat), .bool true]) (by simp [results, Try.results48, go_sem]) ⟨_, rfl, by rw [hb.out]; exact ⟨none, 0, rfl, RowAt.nil _ _ _ _, Nat.le_refl _⟩, .of_below HW.out.maps hB, (HW.out.below hB).rm, (HW.out.below hB).map⟩
    · obtain ⟨v0, known, hrun, hcase⟩ := run_lookup_pair spotKey Try.underlying117 zeroPath HW.out.map s h
      have hlr := HW.out.maps.lt (.inr rfl)
      have hlu : (Instr.lookup 117 (.map (some rk)) (.agg #[.int .i64 s, .int .i64 h]) true).run Try.prog ((w.alloc (.cells #[.int .i64 s, .int .i64 h] 93)).alloc (.cells #[.slice none (0 : Nat) (0 : Nat), .bool false] 90)) = .ok (.tuple #[v0, .bool known]) ((w.alloc (.cells #[.int .i64 s, .int .i64 h] 93)).alloc (.cells #[.slice none (0 : Nat) (0 : Nat), .bool false] 90)) := by
        refine hrun _ ?_
        rw [Array.getElem?_eq_getElem hlr]
        exact ((by (repeat (first | exact Below.refl _ _ | (with_reducible exact Hid.out (by assumption)) | refine below_al ?_ _ | refine below_dr ?_ | refine below_tr ?_ (by assumption) | refine below_tr ?_ (Bel.out (by assumption)) | refine below_tr ?_ (Bel.out (ov_bel _ _)) | refine below_set ?_ (by simp; try omega))) : Below w.heap.size w _).block rk hlr).trans (Array.getElem?_eq_getElem hlr)
      clear hrun
      rcases hcase with ⟨rfl, rfl⟩ | ⟨rfl, hphi⟩
      · have HF := Lib.hid (fun (s' : Nat) (W : World) (hW : FW W p kb kc V L rs bT bB bK bF bW rk dst by_) (ls' : s' < L.st.length) => ih s' (h + 1) W hW ls' (by omega))
        simp only [Int.natCast_add, Int.cast_ofNat_Int, Int.natCast_one] at HF
        clear ih
        (refine (callsIn_wide (n := 9)).1 ?_; refine callsIn_of_wp_marks Try.func48 rfl trivial (wpIn_wide.2 ?_) rfl; simp only [Try.ntmps48, List.size_toArray, List.length_cons, List.length_nil, Nat.reduceAdd, Nat.reduceSub, Array.replicate_succ, Array.replicate_zero, List.push_toArray, List.append_toArray, List.nil_append, List.cons_append])
        go_wp2_with fail
        refine (HF.out s _ (HW.out.below (by (repeat (first | exact Below.refl _ _ | (with_reducible exact Hid.out (by assumption)) | refine below_al ?_ _ | refine below_dr ?_ | refine below_tr ?_ (by assumption) | refine below_tr ?_ (Bel.out (by assumption)) | refine below_tr ?_ (Bel.out (ov_bel _ _)) | refine below_set ?_ (by simp; try omega))))) ls).mono ?_
        rintro e w1 ⟨v1, rfl, hp1, hk1, hr1, hm1⟩
        obtain ⟨A1, n1, c1, f1, rfl⟩ := hp1.form
        generalize hWA : (((w.alloc (.cells #[.int .i64 s, .int .i64 h] 93)).alloc (.cells #[.slice none (0 : Nat) (0 : Nat), .bool false] 90)).alloc (.cells #[.slice none (0 : Nat) (0 : Nat), .bool false] 90)) = wA at *
        have hBA : Below w.heap.size w wA := by subst hWA; (repeat (first | exact Below.refl _ _ | (with_reducible exact Hid.out (by assumption)) | refine below_al ?_ _ | refine below_dr ?_ | refine below_tr ?_ (by assumption) | refine below_tr ?_ (Bel.out (by assumption)) | refine below_tr ?_ (Bel.out (ov_bel _ _)) | refine below_set ?_ (by simp; try omega)))
        have y0 : wA.cell? ⟨w.heap.size, 0, none⟩ = some (.int .i64 s) := by subst hWA; exact (by (try go_simp); (repeat (simp only [↓IntWalk.iteOmega]; (try go_simp))); (try omega))
        have y1 : wA.cell? ⟨w.heap.size, 1, none⟩ = some (.int .i64 h) := by subst hWA; exact (by (try go_simp); (repeat (simp only [↓IntWalk.iteOmega]; (try go_simp))); (try omega))
        have pr : PB wA (w.heap.size + 1) (.slice none (0 : Nat) (0 : Nat)) (.bool false) := by subst hWA; exact ⟨(by (try go_simp); (repeat (simp only [↓IntWalk.iteOmega]; (try go_simp))); (try omega)), (by (try go_simp); (repeat (simp only [↓IntWalk.iteOmega]; (try go_simp))); (try omega)), (by (try go_simp); (repeat (simp only [↓IntWalk.iteOmega]; (try go_simp))); (try omega)), (by (try go_simp); (repeat (simp only [↓IntWalk.iteOmega]; (try go_simp))); (try omega))⟩
        have pb : PB wA (w.heap.size + 1 + 1) (.slice none (0 : Nat) (0 : Nat)) (.bool false) := by subst hWA; exact ⟨(by (try go_simp); (repeat (simp only [↓IntWalk.iteOmega]; (try go_simp))); (try omega)), (by (try go_simp); (repeat (simp only [↓IntWalk.iteOmega]; (try go_simp))); (try omega)), (by (try go_simp); (repeat (simp only [↓IntWalk.iteOmega]; (try go_simp))); (try omega)), (by (try go_simp); (repeat (simp only [↓IntWalk.iteOmega]; (try go_simp))); (try omega))⟩
        have hzA : wA.heap.size = w.heap.size + 3 := by subst hWA; simp
        clear hWA hlu
        have q0 : Fst w L rs rk dst by_ s h none wA := ⟨.of_below HW.out.maps hBA, (HW.out.below hBA).rm, (HW.out.below hBA).map, y0, y1, ⟨_, _, _, _, pr⟩, ⟨none, 0, 0, false, pb, rfl⟩⟩
        have q1 := q0.keep hk1 hr1 hm1
        have zW := (q1.fw HW.out).cW
        have q2 := Lib.hid (q1.set HW.out.maps hp1)
        obtain ⟨A0, n0, c0, f0, ⟨pb0, pb1, pbf0, pbf1⟩, _⟩ := q1.pb
        have hz1 := hk1.size
        have z0 := q1.s0
        have z1 := q1.s1
        clear hk1 hr1 hm1 hBA xT xB xK xF xW y0 y1 pr pb q0 q1 hp1
        go_wp2_with fail
        generalize hWB : (w1.setCell ⟨w.heap.size + 1 + 1, 0, none⟩ (.slice A1 n1 c1)).setCell ⟨w.heap.size + 1 + 1, 1, none⟩ (.bool f1) = wB at *
        have hzB : w1.heap.size = wB.heap.size := by subst hWB; simp
        clear hWB z0 z1 zW pb0 pb1 pbf0 pbf1
        refine (always_any p kb kc V L rs s h wB (q2.out.fw HW.out).rw q2.out.rm ok ls (by omega)).mono ?_
        rintro e w2 ⟨rfl, hk2, hr2⟩
        have q3 : Fst w L rs rk dst by_ s h (bestN L dst by_ d s) w2 := q2.out.keep (hk2.wide (q2.out.mapsW rk (.inr rfl))) hr2 (q2.out.map.mono (hk2.block _ (q2.out.mapsW.lt (.inr rfl)) (fun ⟨k, hk, e⟩ => HW.out.ne k hk e)) (fun _ _ _ e => e.kept hk2.kept))
        have hz2 := hk2.size
        have hBe : Hid (bestN L dst by_ (d + 1) s = (bitsTo (alN L s h) 6).foldl (fun acc b => stepB s h b (bestN L dst by_ d b) acc) (bestN L dst by_ d s)) := Lib.hid (by
          rw [bestN, if_neg hsd, show by_ - (d + 1) = h by omega])
        have HBit := Lib.hid (fun (x : Nat) (hx : (alN L s h).testBit x = true) => ((alF_bit L.ca.length).1 hx).1)
        have hfl : alN L s h < 64 := alF_lt hs1 _
        replace q3 := Lib.hid q3
        clear hk2 hr2 q2
        generalize alN L s h = fl at *
        go_wp2_with (go_at_call 43; refine (each_any _ _).mono ?_; rintro e w6 ⟨rfl, rfl⟩)
        have hbl : Below w2.heap.size w2 (w2.alloc (.cells #[.int .u64 fl] 108)) := by (repeat (first | exact Below.refl _ _ | (with_reducible exact Hid.out (by assumption)) | refine below_al ?_ _ | refine below_dr ?_ | refine below_tr ?_ (by assumption) | refine below_tr ?_ (Bel.out (by assumption)) | refine below_tr ?_ (Bel.out (ov_bel _ _)) | refine below_set ?_ (by simp; try omega)))
        have HI : Hid (RgF w (w2.alloc (.cells #[.int .u64 fl] 108)) L rs rk dst by_ s h d fl [] (w2.alloc (.cells #[.int .u64 fl] 108))) := Lib.hid ⟨Nat.le_refl _, q3.out.below hbl⟩
        have hbox : (w2.alloc (.cells #[.int .u64 fl] 108)).cell? ⟨w2.heap.size, 0, none⟩ = some (.int .u64 fl) := (by (try go_simp); (repeat (simp only [↓IntWalk.iteOmega]; (try go_simp))); (try omega))
        replace hbox := Lib.hid hbox
        clear hbl
        refine (wpIn_wide (n := 9)).1 ?_
        refine wpIn_rangeFunc_B rfl (by omega) (gf := 54) (lb := #[.pointer (some ⟨w2.heap.size, 0, none⟩)]) rfl trivial (enters_of Try.func54 (by kernel_rfl) rfl)
          (each_stops fl w2.heap.size _ hfl hbox.out 8) kpB_t (fun W l o o' _ h1 h2 _ => kpB_b W l o o' h1 h2) (fun W v hv => hv) (Below.refl _ _) (fun _ => rfl)
          (RgF w (w2.alloc (.cells #[.int .u64 fl] 108)) L rs rk dst by_ s h d fl) (fun _ _ _ => False)
          (fun s' X Y row hs hg hrow => by
            obtain ⟨i0, i1⟩ := hs
            exact ⟨by have := hg.size; omega, i1.calm HW.out.maps (calm_grown hg i0 hrow) (by simp; omega)⟩)
          (fun _ _ _ _ _ hs _ _ => hs) HI.out ?round ?done (fun _ _ _ _ _ _ h _ => h.elim)
        case round =>
          intro l x W K hK
          gi_wp2
          rintro l pre W hl hrec ⟨i0, i1⟩ hlen
          clear hrec
          obtain ⟨b, hxb⟩ := x
          have hbn := HBit.out b hxb
          dsimp only
          have hfw := i1.fw HW.out
          have xF := hfw.cF
          have y0 := i1.s0
          have y1 := i1.s1
          have lF' := cell_lt xF
          have lY' := cell_lt y0
          simp only at lF' lY'
          have HFx := Lib.hid (HF.out b W hfw hbn)
          replace i1 := Lib.hid i1
          clear hfw
          gi_wp2_with fail
          refine ⟨trivial, call_round (HFx.out.mono ?_)⟩
          rintro e w3 ⟨v3, rfl, hp3, hk3, hr3, hm3⟩
          have q4 := i1.out.keep hk3 hr3 hm3
          have hS : ∀ i, MS1 L rs rk i → i < (w2.alloc (.cells #[.int .u64 fl] 108)).heap.size := fun i hi => by have := HW.out.maps.lt hi; simp; omega
          have hKF := Lib.hid (keepsFrom_keepM hk3 hS)
          have hKp := Lib.hid (kpB_kept (b := w2.heap.size) hk3.kept)
          have hz3 := hk3.size
          replace y0 := hk3.kept _ _ y0
          replace y1 := hk3.kept _ _ y1
          generalize hacc : (pre.map (·.1)).foldl (fun acc b => stepB s h b (bestN L dst by_ d b) acc) (bestN L dst by_ d s) = acc at *
          have hl1 : Hid (∀ l, acc = some l → l.length ≤ 15) := Lib.hid (fun l hl => by
            rw [← hacc] at hl
            have := fold_len (fun b l hl => bestN_len d b l hl) _ _ (fun l hl => by have := bestN_len d s l hl; omega) l hl
            omega)
          have HFold : Hid (((pre ++ [(⟨b, hxb⟩ : BitOf fl)]).map (·.1)).foldl (fun acc b => stepB s h b (bestN L dst by_ d b) acc) (bestN L dst by_ d s) = stepB s h b (bestN L dst by_ d b) acc) := Lib.hid (by
            rw [List.map_append, List.foldl_append, hacc]; rfl)
          clear hacc
          replace q4 := Lib.hid q4
          clear hk3 hr3 hm3 HFx i1 xF lF'
          cases hbb : bestN L dst by_ d b with
          | none =>
            rw [hbb] at hp3
            subst hp3
            replace hbb := Lib.hid hbb
            gi_wp2_with fail
            have hb : Below w3.heap.size w3 (w3.alloc (.cells #[.slice none (0 : Nat) (0 : Nat), .bool false] 90)) := by (repeat (first | exact Below.refl _ _ | (with_reducible exact Hid.out (by assumption)) | refine below_al ?_ _ | refine below_dr ?_ | refine below_tr ?_ (by assumption) | refine below_tr ?_ (Bel.out (by assumption)) | refine below_tr ?_ (Bel.out (ov_bel _ _)) | refine below_set ?_ (by simp; try omega)))
            exact ⟨hKF.out.trans (keepsFrom_below hb), kpB_t hKp.out (kpB_kept (kept_of_below hb)), by have := hb.size; simp at i0 this ⊢; omega, by rw [HFold.out, hbb.out]; exact q4.out.below hb⟩
          | some lx =>
            rw [hbb] at hp3
            obtain ⟨A3, c3, rfl, hrow3, hle3⟩ := hp3
            have hlx := bestN_len d b lx hbb
            have HStep : Hid (stepB s h b (bestN L dst by_ d b) acc = if betB (some (⟨s, b, h⟩ :: lx)) acc then some (⟨s, b, h⟩ :: lx) else acc) := Lib.hid (by rw [hbb]; rfl)
            clear hbb
            have hbx : Below w3.heap.size w3 (w3.alloc (.cells #[.slice A3 lx.length c3, .bool true] 90)) := by (repeat (first | exact Below.refl _ _ | (with_reducible exact Hid.out (by assumption)) | refine below_al ?_ _ | refine below_dr ?_ | refine below_tr ?_ (by assumption) | refine below_tr ?_ (Bel.out (by assumption)) | refine below_tr ?_ (Bel.out (ov_bel _ _)) | refine below_set ?_ (by simp; try omega)))
            obtain ⟨v', W', hap, hbW, A', c', rfl, hrow', hle'⟩ := cons_hop (w3.alloc (.cells #[.slice A3 lx.length c3, .bool true] 90)) ⟨s, b, h⟩ lx A3 c3 (hrow3.kept (kept_of_below hbx)) (by omega)
            have hx3 : (w3.alloc (.cells #[.slice A3 lx.length c3, .bool true] 90)).heap.size = w3.heap.size + 1 := by simp
            rw [hx3] at hap
            simp only at hap
            have p3 : PB W' w3.heap.size (.slice A3 lx.length c3) (.bool true) := (show PB (w3.alloc (.cells #[.slice A3 lx.length c3, .bool true] 90)) w3.heap.size (.slice A3 lx.length c3) (.bool true) from ⟨(by (try go_simp); (repeat (simp only [↓IntWalk.iteOmega]; (try go_simp))); (try omega)), (by (try go_simp); (repeat (simp only [↓IntWalk.iteOmega]; (try go_simp))); (try omega)), (by (try go_simp); (repeat (simp only [↓IntWalk.iteOmega]; (try go_simp))); (try omega)), (by (try go_simp); (repeat (simp only [↓IntWalk.iteOmega]; (try go_simp))); (try omega))⟩).below hbW
            have hB3 : Below w3.heap.size w3 W' := below_tr hbx hbW
            have hzW' : w3.heap.size < W'.heap.size := p3.lt
            obtain ⟨p30, p31, pf30, pf31⟩ := p3
            have q5 := q4.out.below hB3
            obtain ⟨A4, n4, c4, f4, ⟨pb0, pb1, pbf0, pbf1⟩, hp4⟩ := q5.pb
            have lb3 := q4.out.pb
            replace lb3 : w.heap.size + 1 + 1 < w3.heap.size := let ⟨_, _, _, _, e, _⟩ := lb3; e.lt
            have hset : Hid (Below w3.heap.size w3 (W'.setCell ⟨w3.heap.size, 0, none⟩ (.slice A' (lx.length + 1) c'))) := Lib.hid (hB3.setCell (Nat.le_refl _) _)
            have hpx : Hid (PathAt (W'.setCell ⟨w3.heap.size, 0, none⟩ (.slice A' (lx.length + 1) c')) (.agg #[.slice A' (lx.length + 1) c', .bool true]) (some (⟨s, b, h⟩ :: lx))) :=
              Lib.hid ((show PathAt W' (.agg #[.slice A' (lx.length + 1) c', .bool true]) (some (⟨s, b, h⟩ :: lx)) from ⟨A', c', rfl, hrow', hle'⟩).keptN (KeptN.set p30 (fun n e => by cases e)))
            have hpb : Hid (PathAt (W'.setCell ⟨w3.heap.size, 0, none⟩ (.slice A' (lx.length + 1) c')) (.agg #[.slice A4 n4 c4, .bool f4]) acc) := Lib.hid (hp4.keptN (KeptN.set p30 (fun n e => by cases e)))
            have hlcx : Hid ((⟨s, b, h⟩ :: lx : List Hp).length ≤ 15) := Lib.hid (by simp; omega)
            have hx50 : Hid ((W'.setCell ⟨w3.heap.size, 0, none⟩ (.slice A' (lx.length + 1) c')).cell? ⟨w3.heap.size, 0, none⟩ = some (.slice A' (lx.length + 1) c')) := Lib.hid (cell_set p30 _)
            have hx51 : Hid ((W'.setCell ⟨w3.heap.size, 0, none⟩ (.slice A' (lx.length + 1) c')).cell? ⟨w3.heap.size, 1, none⟩ = some (.bool true)) := Lib.hid ((World.cell?_setCell_other _ _ _ _ (by intro e; cases e)).trans p31)
            clear hrow' hB3 q5 hp4
            have hcell4 := Lib.hid pb0
            clear hrow3 hbx hbW hcell4
            gi_wp2_with (gi_at_builtin; refine wpListIn_append_run _ rfl _ _ 56 rfl _ _ rfl rfl _ _ hap ?_)
            refine ⟨trivial, call_round ((better_any _ _ _ _ _ hpx.out hpb.out (fun l e => by cases e; exact hlcx.out) (fun l e => hl1.out l e)).mono ?_)⟩
            rintro e w6 ⟨rfl, hb6⟩
            have hB6 : Below w3.heap.size w3 w6 := below_tr hset.out hb6
            have q6 := q4.out.below hB6
            have hpx6 := hpx.out.kept (kept_of_below hb6)
            have x60 := kept_of_below hb6 _ _ hx50.out
            have x61 := kept_of_below hb6 _ _ hx51.out
            have hz6 := hB6.size
            have hKF6 := Lib.hid (hKF.out.trans (keepsFrom_below hB6))
            have hKp6 := Lib.hid (kpB_t hKp.out (kpB_kept (b := w2.heap.size) (kept_of_below hB6)))
            clear hb6 hB6 hset hpx hpb hx50 hx51 p30 p31 pf30 pf31 pb0 pb1 pbf0 pbf1 hap y0 y1 q4 hKF hKp
            cases hbt : betB (some (⟨s, b, h⟩ :: lx)) acc with
            | true =>
              obtain ⟨A5, n5, c5, f5, ⟨pb0, pb1, pbf0, pbf1⟩, _⟩ := q6.pb
              have hfin : Hid (RgF w (w2.alloc (.cells #[.int .u64 fl] 108)) L rs rk dst by_ s h d fl (pre ++ [⟨b, hxb⟩]) ((w6.setCell ⟨w.heap.size + 1 + 1, 0, none⟩ (.slice A' (lx.length + 1) c')).setCell ⟨w.heap.size + 1 + 1, 1, none⟩ (.bool true))) := Lib.hid ⟨by simp at i0 ⊢; omega, by
                rw [HFold.out, HStep.out, hbt, if_pos rfl]
                exact q6.set HW.out.maps hpx6⟩
              have hkk : Hid (KeepsFrom (w2.alloc (.cells #[.int .u64 fl] 108)).heap.size W ((w6.setCell ⟨w.heap.size + 1 + 1, 0, none⟩ (.slice A' (lx.length + 1) c')).setCell ⟨w.heap.size + 1 + 1, 1, none⟩ (.bool true))) :=
                Lib.hid (hKF6.out.trans (((KeepsOthers.setCell _ _ _).trans (KeepsOthers.setCell _ _ _)).from _))
              have hkp : Hid (KpB w2.heap.size W ((w6.setCell ⟨w.heap.size + 1 + 1, 0, none⟩ (.slice A' (lx.length + 1) c')).setCell ⟨w.heap.size + 1 + 1, 1, none⟩ (.bool true))) :=
                Lib.hid (fun v hv => (World.cell?_setCell_other _ _ _ _ (by intro e; have := congrArg Addr.block e; simp only at this; omega)).trans ((World.cell?_setCell_other _ _ _ _ (by intro e; have := congrArg Addr.block e; simp only at this; omega)).trans (hKp6.out v hv)))
              clear q6 hpx6 hKF6 hKp6 HFold HStep
              gi_wp2
              exact ⟨hkk.out, hkp.out, hfin.out⟩
            | false =>
              have hfin : Hid (RgF w (w2.alloc (.cells #[.int .u64 fl] 108)) L rs rk dst by_ s h d fl (pre ++ [⟨b, hxb⟩]) w6) := Lib.hid ⟨by simp at i0 ⊢; omega, by
                rw [HFold.out, HStep.out, hbt, if_neg (by simp)]
                exact q6⟩
              clear q6 hpx6 HFold HStep x60 x61
              gi_wp2
              exact ⟨hKF6.out, hKp6.out, hfin.out⟩
        case done =>
          rintro D ys W hD hS ⟨i0, i1⟩ hK
          rw [hS, ← hBe.out] at i1
          obtain ⟨A5, n5, c5, f5, pb, hp5⟩ := i1.pb
          obtain ⟨es, ck, hup, hinv2⟩ := run_update_pair spotKey Try.underlying117 i1.map s h (.agg #[.slice A5 n5 c5, .bool f5]) (fun s' d' e1 e2 => by
            obtain rfl : s = s' := by omega
            obtain rfl : d' = d + 1 := by omega
            exact hp5)
          have hkU : KeepM (MS1 L rs rk) W (setO W rk (.map es ck)) := KeepM.setO i1.mapsW (.inr rfl)
          have hrU : RM (setO W rk (.map es ck)) L rs := fun k hk => (i1.rm k hk).mono (by
            have := HW.out.ne k hk
            simp [Proofs.Ytdfohielnfdmkaa.setO, Array.getElem?_setIfInBounds, Ne.symm this]) (fun _ _ _ q => q)
          have qU := i1.keep hkU hrU (hinv2.mono rfl (fun _ _ _ q => q.kept hkU.kept))
          have hKU : (setO W rk (.map es ck)).heap[D]? = some (.deferred (some [])) := (hkU.block D (Array.getElem?_eq_some_iff.1 hK).1 (fun hs => by have := HW.out.maps.lt hs; simp at hD; omega)).trans hK
          have hpU := hp5.kept hkU.kept
          obtain ⟨A6, n6, c6, f6, pr⟩ := qU.pr
          have pbU := pb.keep hkU
          have xK := (i1.fw HW.out).cK
          have y0 := i1.s0
          have y1 := i1.s1
          obtain ⟨pb0, pb1, _, _⟩ := pb
          obtain ⟨pu0, pu1, _, _⟩ := pbU
          obtain ⟨pr0, pr1, prf0, prf1⟩ := pr
          have lb := cell_lt pb0
          simp only at lb
          replace qU := Lib.hid qU
          replace hKU := Lib.hid hKU
          replace hpU := Lib.hid hpU
          clear i1 hp5 hkU hrU hinv2 HI hbox hK hS
          gi_wp2
          go_wp2
          have hpr : PB (setO W rk (.map es ck)) (w.heap.size + 1) (.slice A6 n6 c6) (.bool f6) := ⟨pr0, pr1, prf0, prf1⟩
          have hc1 : ((setO W rk (.map es ck)).setCell ⟨w.heap.size + 1, 0, none⟩ (.slice A5 n5 c5)).cell? ⟨w.heap.size + 1, 1, none⟩ = some (.bool f6) := (World.cell?_setCell_other _ _ _ _ (by intro e; cases e)).trans pr1
          have hN : KeptN (setO W rk (.map es ck)) (((setO W rk (.map es ck)).setCell ⟨w.heap.size + 1, 0, none⟩ (.slice A5 n5 c5)).setCell ⟨w.heap.size + 1, 1, none⟩ (.bool f5)) := (KeptN.set pr0 (fun n e => by cases e)).trans (KeptN.set hc1 (fun n e => by cases e))
          have hB : Below w.heap.size (setO W rk (.map es ck)) (((setO W rk (.map es ck)).setCell ⟨w.heap.size + 1, 0, none⟩ (.slice A5 n5 c5)).setCell ⟨w.heap.size + 1, 1, none⟩ (.bool f5)) := ((Below.refl _ _).setCell (by simp) _).setCell (by simp) _
          have hpr7 := hpr.set (.slice A5 n5 c5) (.bool f5)
          have hK7 := ((KeepsOthers.setCell (setO W rk (.map es ck)) ⟨w.heap.size + 1, 0, none⟩ (.slice A5 n5 c5)).trans (KeepsOthers.setCell _ ⟨w.heap.size + 1, 1, none⟩ (.bool f5))).same D _ hKU.out rfl
          have r0 := kept_collected hK7 (.deferred none) _ _ hpr7.c0
          have r1 := kept_collected hK7 (.deferred none) _ _ hpr7.c1
          have hB9 := below_put hB (show w.heap.size ≤ D by simp at hD; omega) hK7 (.deferred none)
          have hN9 := hN.trans (KeptN.of (kept_collected hK7 (.deferred none)))
          have qq := qU.out
          exact retMk hK7 (.agg #[.slice A5 n5 c5, .bool f5]) (by simp [results, Try.results48, go_sem, r0, r1])
            ⟨_, rfl, hpU.out.keptN hN9, qq.km.trB hB9, qq.rm.trB (fun k hk => HW.out.maps.lt (.inl ⟨k, hk, rfl⟩)) hB9, qq.map.mono (hB9.block _ hlr) (fun _ _ _ e => e.keptN hN9)⟩
      · replace hphi := hphi s (d + 1) rfl (by omega)
        obtain ⟨A, n, c, f, rfl⟩ := hphi.form
        replace hphi := Lib.hid hphi
        (refine (callsIn_wide (n := 9)).1 ?_; refine callsIn_of_wp_marks Try.func48 rfl trivial (wpIn_wide.2 ?_) rfl; simp only [Try.ntmps48, List.size_toArray, List.length_cons, List.length_nil, Nat.reduceAdd, Nat.reduceSub, Array.replicate_succ, Array.replicate_zero, List.push_toArray, List.append_toArray, List.nil_append, List.cons_append])
        go_wp2
        have hB : Below w.heap.size w (((w.alloc (.cells #[.int .i64 s, .int .i64 h] 93)).alloc (.cells #[.slice A n c, .bool f] 90)).alloc (.cells #[.slice A n c, .bool f] 90)) := by (repeat (first | exact Below.refl _ _ | (with_reducible exact Hid.out (by assumption)) | refine below_al ?_ _ | refine below_dr ?_ | refine below_tr ?_ (by assumption) | refine below_tr ?_ (Bel.out (by assumption)) | refine below_tr ?_ (Bel.out (ov_bel _ _)) | refine below_set ?_ (by simp; try omega)))
        exact retM (.agg #[.slice A n c, .bool f]) (by simp [results, Try.results48, go_sem]) ⟨_, rfl, hphi.out.kept (kept_of_below hB), .of_below HW.out.maps hB, (HW.out.below hB).rm, (HW.out.below hB).map⟩
end Go.Proofs.Ytdfohielnfdmkaa

/- Walks: package relay: the best path that arrives at an hour or before. -/
set_option linter.unusedVariables false
set_option linter.unusedSimpArgs false
namespace Go.Proofs.Ytdfohielnfdmkaa
open Go.RowKit
attribute [local go_sem low] cell_alloc_ite frozen_alloc_ite ov_cell ov_frozen cell_alloc_map frozen_alloc_map

/-- Of a map of the call's own no word is said. -/
theorem KeepM.narrow {L : Lnd} {rs : Nat → Nat} {rk : Nat} {w a b : World} (hm : MapsOf (MS L rs) w) (h : Below w.heap.size w a) (k : KeepM (MS1 L rs rk) a b) (hr : w.heap.size ≤ rk) : KeepM (MS L rs) w b :=
  ⟨k.os.trans h.os, k.tape.trans h.tape, k.output.trans h.output, Nat.le_trans h.size k.size, fun i hi hn => (k.block i (Nat.lt_of_lt_of_le hi h.size) (fun hs => by rcases hs with hs | rfl; exact hn hs; omega)).trans (h.block i hi), hm, fun i hi => k.new i (.inl hi)⟩

theorem heap_alloc3 (w5 : World) (m a b : Obj) (i : Nat) (hi : i = w5.heap.size) : (((w5.alloc m).alloc a).alloc b).heap[i]? = some m := by
  subst hi
  have hb : Below (w5.alloc m).heap.size (w5.alloc m) (((w5.alloc m).alloc a).alloc b) := by (repeat (first | exact Below.refl _ _ | (with_reducible exact Hid.out (by assumption)) | refine below_al ?_ _ | refine below_dr ?_ | refine below_tr ?_ (by assumption) | refine below_tr ?_ (Bel.out (by assumption)) | refine below_tr ?_ (Bel.out (ov_bel _ _)) | refine below_set ?_ (by simp; try omega)))
  exact (hb.block _ (by simp)).trans (by rw [World.alloc, Array.getElem?_push_size])
set_option maxHeartbeats 4000000 in
theorem route_any (p kb kc : Nat) (V : LV) (L : Lnd) (rs : Nat → Nat) (s h dst by_ : Nat) (w : World) (hw : RW w p kb kc V L rs) (hm : RM w L rs) (ok : Okay L) (ls : s < L.st.length) (lh : h ≤ by_) (lb : by_ ≤ L.su.length) :
    Calls Try.prog 33 #[.pointer (some ⟨p, 0, none⟩), .agg #[.int .i64 s, .int .i64 h], .int .i64 dst, .int .i64 by_] w fun e w' => ∃ v, e = .returned v ∧ PathAt w' v (bestN L dst by_ (by_ - h) s) ∧ KeepM (MS L rs) w w' ∧ RM w' L rs := by
  have HF := Lib.hid (fun (bT bB bK bF bW rk : Nat) (W : World) (hW : FW W p kb kc V L rs bT bB bK bF bW rk dst by_) => find_any p kb kc V L rs bT bB bK bF bW rk dst by_ ok lb (by_ - h) s h W hW ls (by omega))
  have H := Lib.hid hw
  have HM := Lib.hid hm
  clear hw hm ok
  have hmm := @run_makeMap Try.prog
  go_enter Try.func33, Try.ntmps33
  go_wp2_with fail
  have hz : ∀ k, k < L.ca.length → rs k < w.heap.size := fun k hk => HM.out.maps.lt ⟨k, hk, rfl⟩
  refine (HF.out (w.heap.size + 1 + 1) (w.heap.size + 1 + 1 + 1) (w.heap.size + 1 + 1 + 1 + 1 + 1 + 1) (w.heap.size + 1 + 1 + 1 + 1 + 1 + 1 + 1) w.heap.size (w.heap.size + 1 + 1 + 1 + 1 + 1) _ ?fw).mono ?_
  case fw => exact ⟨H.out.below (by (repeat (first | exact Below.refl _ _ | (with_reducible exact Hid.out (by assumption)) | refine below_al ?_ _ | refine below_dr ?_ | refine below_tr ?_ (by assumption) | refine below_tr ?_ (Bel.out (by assumption)) | refine below_tr ?_ (Bel.out (ov_bel _ _)) | refine below_set ?_ (by simp; try omega)))), HM.out.below (by (repeat (first | exact Below.refl _ _ | (with_reducible exact Hid.out (by assumption)) | refine below_al ?_ _ | refine below_dr ?_ | refine below_tr ?_ (by assumption) | refine below_tr ?_ (Bel.out (by assumption)) | refine below_tr ?_ (Bel.out (ov_bel _ _)) | refine below_set ?_ (by simp; try omega)))), (by (try go_simp); (repeat (simp only [↓IntWalk.iteOmega]; (try go_simp))); (try omega)), (by (try go_simp); (repeat (simp only [↓IntWalk.iteOmega]; (try go_simp))); (try omega)), (by (try go_simp); (repeat (simp only [↓IntWalk.iteOmega]; (try go_simp))); (try omega)), (by (try go_simp); (repeat (simp only [↓IntWalk.iteOmega]; (try go_simp))); (try omega)), (by (try go_simp); (repeat (simp only [↓IntWalk.iteOmega]; (try go_simp))); (try omega)), ⟨#[], 0, heap_alloc3 _ _ _ _ _ (by simp), fun e he => by simp at he⟩, fun k hk e => by have := hz k hk; omega⟩
  generalize hA : World.alloc (World.alloc (World.alloc _ _) _) _ = wA
  have hBA : Below w.heap.size w wA := by subst hA; (repeat (first | exact Below.refl _ _ | (with_reducible exact Hid.out (by assumption)) | refine below_al ?_ _ | refine below_dr ?_ | refine below_tr ?_ (by assumption) | refine below_tr ?_ (Bel.out (by assumption)) | refine below_tr ?_ (Bel.out (ov_bel _ _)) | refine below_set ?_ (by simp; try omega)))
  have pb : PB wA (w.heap.size + 1 + 1 + 1 + 1) (.slice none (0 : Nat) (0 : Nat)) (.bool false) := by subst hA; exact ⟨(by (try go_simp); (repeat (simp only [↓IntWalk.iteOmega]; (try go_simp))); (try omega)), (by (try go_simp); (repeat (simp only [↓IntWalk.iteOmega]; (try go_simp))); (try omega)), (by (try go_simp); (repeat (simp only [↓IntWalk.iteOmega]; (try go_simp))); (try omega)), (by (try go_simp); (repeat (simp only [↓IntWalk.iteOmega]; (try go_simp))); (try omega))⟩
  clear hA
  rintro e w1 ⟨v, rfl, hp, hk, hr, _⟩
  obtain ⟨A, n, c, f, rfl⟩ := hp.form
  have hk1 := Lib.hid (hk.narrow HM.out.maps hBA (by omega))
  have hpb := pb.keep hk
  have hset : Hid (Below w.heap.size w1 ((w1.setCell ⟨w.heap.size + 1 + 1 + 1 + 1, 0, none⟩ (.slice A n c)).setCell ⟨w.heap.size + 1 + 1 + 1 + 1, 1, none⟩ (.bool f))) := Lib.hid (((Below.refl _ _).setCell (by simp only; omega) _).setCell (by simp only; omega) _)
  obtain ⟨p0, p1, pf0, pf1⟩ := hpb
  have hc1 : (w1.setCell ⟨w.heap.size + 1 + 1 + 1 + 1, 0, none⟩ (.slice A n c)).cell? ⟨w.heap.size + 1 + 1 + 1 + 1, 1, none⟩ = some (.bool false) := (World.cell?_setCell_other _ _ _ _ (by intro e; cases e)).trans p1
  have hpp : Hid (PathAt ((w1.setCell ⟨w.heap.size + 1 + 1 + 1 + 1, 0, none⟩ (.slice A n c)).setCell ⟨w.heap.size + 1 + 1 + 1 + 1, 1, none⟩ (.bool f)) (.agg #[.slice A n c, .bool f]) (bestN L dst by_ (by_ - h) s)) := Lib.hid (hp.keptN ((KeptN.set p0 (fun n e => by cases e)).trans (KeptN.set hc1 (fun n e => by cases e))))
  replace hr := Lib.hid hr
  clear hp hc1 hk pb hBA
  have hlt := cell_lt p0
  simp only at hlt
  go_wp2
  have s1 := cell_set p0 (.slice A n c)
  have s2 := ((PB.mk p0 p1 pf0 pf1).set (.slice A n c) (.bool f)).c1
  refine bodyPost_ret (v := .agg #[.slice A n c, .bool f]) ?_ rfl ?_
  · simp [results, Try.results33, go_sem, s1, s2]
  · exact ⟨_, rfl, hpp.out, hk1.out.trB hset.out, hr.out.trB hz hset.out⟩
end Go.Proofs.Ytdfohielnfdmkaa

/- Walks: package relay: Route. -/
set_option linter.unusedVariables false
set_option linter.unusedSimpArgs false
namespace Go.Proofs.Ytdfohielnfdmkaa
open Go.RowKit
attribute [local go_sem low] cell_alloc_ite frozen_alloc_ite ov_cell ov_frozen cell_alloc_map frozen_alloc_map

theorem wpList_append_run {P : Program} (w : World) {ops : Array Oper} {rest : List Oper} {o : Oper} {a : Act} {Q : Exit → Act → World → Prop}
    (hg : o.guard = none) (s x : Operand) (t : TypeId) (hop : o.op = Op.call { callee := Callee.builtin Builtin.append, args := #[s, x], argTypes := #[t, t] })
    (u v : Value) (hs : a.eval s = u) (hx : a.eval x = v) (v' : Value) (w' : World) (hrun : (Builtin.append_ #[t, t] o.type #[u, v]).run P w = .ok v' w') (hK : wpList P ops Q rest (a.put o.dst v') w') :
    wpList P ops Q (o :: rest) a w := by
  refine wpList_plain hg fun K hK' => ?_
  unfold Oper.wp execOp
  simp only [hop, resolve, invoke, builtin, Sem.run_bind, Sem.run_pure, Result.andThen_ok, List.map_toArray, List.map_cons, List.map_nil, hs, hx, hrun]
  exact hK' _ _ hK
/-- A list of hops anew. -/
theorem copy_hops (w : World) (l : List Hp) (a : Addr) (c : Nat) (hr : RowAt w (some a) 3 encHp l) (hl : l.length ≤ 100) :
    ∃ v' W', (Builtin.append_ #[56, 56] 56 #[.slice (some ⟨w.heap.size, 0, none⟩) 0 0, .slice (some a) l.length c]).run Try.prog (w.alloc (.cells #[] 63)) = .ok v' W' ∧
      Below w.heap.size w W' ∧ ∃ A' c', v' = .slice A' l.length c' ∧ RowAt W' A' 3 encHp l ∧ l.length ≤ c' := by
  obtain ⟨i0, hi0, hz0, hz1, hz2⟩ := info_parts info_hop
  have hown : (w.alloc (.cells #[] 63)).ownsRow w.heap.size 63 3 (.slice (some ⟨w.heap.size, 0, none⟩) 0 0) 0 (([] : List Hp).flatMap encHp) :=
    ⟨rfl, .inr ⟨w.heap.size, 0, #[], rfl, Nat.le_refl _, by rw [World.alloc, Array.getElem?_push_size], Nat.le_refl _, by decide, rfl, rfl⟩⟩
  have hb0 : Below w.heap.size w (w.alloc (.cells #[] 63)) := by (repeat (first | exact Below.refl _ _ | (with_reducible exact Hid.out (by assumption)) | refine below_al ?_ _ | refine below_dr ?_ | refine below_tr ?_ (by assumption) | refine below_tr ?_ (Bel.out (by assumption)) | refine below_tr ?_ (Bel.out (ov_bel _ _)) | refine below_set ?_ (by simp; try omega)))
  have hr2 := hr.kept (kept_of_below hb0)
  have hcells : ∀ j u, (l.flatMap encHp)[j]? = some u → (w.alloc (.cells #[] 63)).cell? (a.add j) = some u := fun j u hj => by
    cases l with
    | nil => simp at hj
    | cons y ys =>
      obtain ⟨b, o, hA, _⟩ := hr2 0 y rfl
      cases hA
      exact flat_cells hr2 j u hj
  obtain ⟨v', W', h1, h2, h3, _⟩ := run_append_own (P := Try.prog) (w.alloc (.cells #[] 63)) w.heap.size 56 56 63 i0 _ 3 24 Try.underlying56 hi0 hz0 hz1 hz2 rfl (by omega) _ 0 _ hown
      a l.length c (l.flatMap encHp) (flat_len l) hcells hp_one (by simp only [maxLen]; omega) (by omega) (by simp)
  rw [Nat.zero_add, List.flatMap_nil, List.nil_append] at h2
  obtain ⟨A', c', e, hrow, hle, _⟩ := row_of_owns (k := 3) (enc := encHp) (fun _ => rfl) h2
  exact ⟨v', W', h1, hb0.grown h3 (by simp) (fun k hk => by cases hk; exact Nat.le_refl _), A', c', e, hrow, hle⟩
theorem eql_nil_none (n c : Nat) (w : World) : (binOp .eql 56 (.slice none n c) (.slice none (0 : Nat) (0 : Nat))).run Try.prog w = .ok (.bool true) w := by kernel_rfl
theorem eql_nil_some (a : Addr) (n c : Nat) (w : World) : (binOp .eql 56 (.slice (some a) n c) (.slice none (0 : Nat) (0 : Nat))).run Try.prog w = .ok (.bool false) w := by kernel_rfl
set_option maxRecDepth 100000 in
set_option maxHeartbeats 4000000 in
theorem cloneHop_any (A : Option Addr) (c : Nat) (xs : List Hp) (w : World) (hx : RowAt w A 3 encHp xs) (lx : xs.length ≤ 100) (lc : xs.length ≤ c) :
    Calls Try.prog 34 #[.slice A xs.length c] w fun e w' => ∃ A' c', e = .returned (.slice A' xs.length c') ∧ RowAt w' A' 3 encHp xs ∧ xs.length ≤ c' ∧ Below w.heap.size w w' := by
  cases A with
  | none =>
    obtain rfl : xs = [] := by
      cases xs with
      | nil => rfl
      | cons x xs => obtain ⟨b, o, hA, _⟩ := hx 0 x rfl; cases hA
    clear hx
    have he := fun w => eql_nil_none 0 c w
    go_enter Try.func34, Try.ntmps34
    go_wp2
    refine bodyPost_ret (v := .slice none (0 : Nat) (0 : Nat)) (by simp [results, Try.results34, go_sem]) rfl ⟨none, 0, rfl, RowAt.nil _ _ _ _, Nat.zero_le _, Below.refl _ _⟩
  | some a =>
    obtain ⟨v', W', hap, hbW, A', c', rfl, hrow, hle⟩ := copy_hops w xs a c hx lx
    replace hrow := Lib.hid hrow
    clear hx
    have he := eql_nil_some a xs.length c
    go_enter Try.func34, Try.ntmps34
    go_wp2_with (at_builtin; refine wpList_append_run _ rfl _ _ 56 rfl _ _ rfl rfl _ _ hap ?_)
    go_ret
    exact ⟨A', c', rfl, hrow.out, hle, hbW⟩
end Go.Proofs.Ytdfohielnfdmkaa

/- Walks: package relay: Route. -/
set_option linter.unusedVariables false
set_option linter.unusedSimpArgs false
namespace Go.Proofs.Ytdfohielnfdmkaa
open Go.RowKit
attribute [local go_sem low] cell_alloc_ite frozen_alloc_ite ov_cell ov_frozen cell_alloc_map frozen_alloc_map

/-- The first of n hours from s on at which there is a path. -/
def firstP (g : Nat → Option (List Hp)) : Nat → Nat → Option (List Hp × Nat)
  | 0, _ => none
  | n + 1, s => match g s with
    | some l => some (l, s)
    | none => firstP g n (s + 1)
/-- The best route, when it arrives, and the error. -/
def routeR (L : Lnd) (f t s : Int) : List Hp × Int × Int :=
  if openE L [f, t] [s] 0 ≠ 0 then ([], 0, openE L [f, t] [s] 0)
  else match firstP (fun b => bestN L t.toNat b (b - s.toNat) f.toNat) (L.su.length + 1 - s.toNat) s.toNat with
    | some (l, b) => (l, b, 0)
    | none => ([], 0, 10)
def RouteTop (r : List Hp × Int × Int) (w : World) (e : Ending) (w' : World) : Prop :=
  ∃ A c, e = .returned (.tuple #[.slice A r.1.length c, .int .i64 r.2.1, .int .i64 r.2.2]) ∧ RowAt w' A 3 encHp r.1 ∧ r.1.length ≤ c ∧ r.1.length ≤ 12 ∧ Below w.heap.size w w'

set_option maxRecDepth 100000 in
set_option maxHeartbeats 4000000 in
theorem routeTop_any (V : LV) (L : Lnd) (f t s : Int) (w : World) (hr : RdL w V L) :
    Calls Try.prog 17 #[vLnd V L, .int .i64 f, .int .i64 t, .int .i64 s] w (RouteTop (routeR L f t s) w) := by
  cases he : (openE L [f, t] [s] 0 != 0) with
  | true =>
    have HO := Lib.hid (fun W b1 b2 (hW : Below w.heap.size w W) h0 h1 h2 => open21_err V L f t s b1 b2 W (hr.below hW) h0 h1 h2 he)
    have HS : Hid (routeR L f t s = ([], 0, openE L [f, t] [s] 0)) := Lib.hid (by unfold routeR; rw [if_pos (by simpa using he)])
    clear hr
    go_enter Try.func17, Try.ntmps17
    go_wp2_with (go_at_call 27; refine (HO.out _ (w.heap.size + 1) (w.heap.size + 1 + 1) (by (repeat (first | exact Below.refl _ _ | (with_reducible exact Hid.out (by assumption)) | refine below_al ?_ _ | refine below_dr ?_ | refine below_tr ?_ (by assumption) | refine below_tr ?_ (Bel.out (by assumption)) | refine below_tr ?_ (Bel.out (ov_bel _ _)) | refine below_set ?_ (by simp; try omega)))) (by (try go_simp); (repeat (simp only [↓IntWalk.iteOmega]; (try go_simp))); (try omega)) (by (try go_simp); (repeat (simp only [↓IntWalk.iteOmega]; (try go_simp))); (try omega)) (by (try go_simp); (repeat (simp only [↓IntWalk.iteOmega]; (try go_simp))); (try omega))).mono ?_; rintro e w' ⟨rfl, hb⟩; obtain ⟨hc, hf⟩ := bcell hb; have hz := hb.size; try simp at hz)
    refine bodyPost_ret (v := .tuple #[.slice none (0 : Nat) (0 : Nat), .int .i64 0, .int .i64 (openE L [f, t] [s] 0)]) (by simp [results, Try.results17, go_sem]) rfl ?_
    rw [HS.out]
    exact ⟨none, 0, rfl, RowAt.nil _ _ _ _, Nat.zero_le _, Nat.zero_le _, by (repeat (first | exact Below.refl _ _ | (with_reducible exact Hid.out (by assumption)) | refine below_al ?_ _ | refine below_dr ?_ | refine below_tr ?_ (by assumption) | refine below_tr ?_ (Bel.out (by assumption)) | refine below_tr ?_ (Bel.out (ov_bel _ _)) | refine below_set ?_ (by simp; try omega)))⟩
  | false =>
    have he0 : openE L [f, t] [s] 0 = 0 := by simpa using he
    have HO := Lib.hid (fun W b1 b2 (hW : Below w.heap.size w W) h0 h1 h2 => open21_ok V L f t s b1 b2 W (hr.below hW) h0 h1 h2 he0)
    obtain ⟨hf, hst, hti, _⟩ := openE_zero he0
    obtain ⟨f0, f1⟩ := hst f (by simp)
    obtain ⟨t0, t1⟩ := hst t (by simp)
    obtain ⟨s0, s1⟩ := hti s (by simp)
    obtain ⟨f', rfl⟩ := Int.eq_ofNat_of_zero_le f0
    obtain ⟨t', rfl⟩ := Int.eq_ofNat_of_zero_le t0
    obtain ⟨s', rfl⟩ := Int.eq_ofNat_of_zero_le s0
    have ok := okay_of hf
    have hu1 := ok.u1
    have hs1 := ok.s1
    have hl3 := hr.l3
    have HRT := Lib.hid (fun p kb kc rs (W : World) (hw : RW W p kb kc V L rs) (hm : RM W L rs) (b : Nat) (hb1 : s' ≤ b) (hb2 : b ≤ L.su.length) => route_any p kb kc V L rs f' s' t' b W hw hm ok (by omega) hb1 hb2)
    obtain ⟨g, hg⟩ : ∃ g : Nat → Option (List Hp), g = fun b => bestN L t' b (b - s') f' := ⟨_, rfl⟩
    have HS : Hid (routeR L f' t' s' = match firstP g (L.su.length + 1 - s') s' with | some (l, b) => (l, (b : Int), 0) | none => ([], 0, 10)) := Lib.hid (by
      unfold routeR; rw [if_neg (by simpa using he0), hg]; rfl)
    have HQ : Hid (∀ b, bestN L t' b (b - s') f' = g b) := Lib.hid (fun d => by rw [hg])
    have HL : Hid (∀ b l, b ≤ L.su.length → g b = some l → l.length ≤ 12) := Lib.hid (fun b l hb hl => by
      rw [hg] at hl
      have := bestN_len _ _ _ hl
      omega)
    have hsE : s' ≤ L.su.length := by omega
    clear he he0 hr hst hti ok f0 t0 s0 hf hg
    go_enter Try.func17, Try.ntmps17
    go_wp2_with fail
    refine (HO.out _ (w.heap.size + 1) (w.heap.size + 1 + 1) (by (repeat (first | exact Below.refl _ _ | (with_reducible exact Hid.out (by assumption)) | refine below_al ?_ _ | refine below_dr ?_ | refine below_tr ?_ (by assumption) | refine below_tr ?_ (Bel.out (by assumption)) | refine below_tr ?_ (Bel.out (ov_bel _ _)) | refine below_set ?_ (by simp; try omega)))) (by (try go_simp); (repeat (simp only [↓IntWalk.iteOmega]; (try go_simp))); (try omega)) (by (try go_simp); (repeat (simp only [↓IntWalk.iteOmega]; (try go_simp))); (try omega)) (by (try go_simp); (repeat (simp only [↓IntWalk.iteOmega]; (try go_simp))); (try omega))).mono ?_
    rintro e w1 ⟨p, kb, kc, rs, rfl, hb, hrw, hmap⟩
    have hrm := rm_new (L := L) (fun k hk => (hmap k hk).2)
    have hB := Lib.hid (show Below w.heap.size w w1 by (repeat (first | exact Below.refl _ _ | (with_reducible exact Hid.out (by assumption)) | refine below_al ?_ _ | refine below_dr ?_ | refine below_tr ?_ (by assumption) | refine below_tr ?_ (Bel.out (by assumption)) | refine below_tr ?_ (Bel.out (ov_bel _ _)) | refine below_set ?_ (by simp; try omega))))
    have hge := Lib.hid (fun k hk => (hmap k hk).1)
    replace hrw := Lib.hid hrw
    replace hrm := Lib.hid hrm
    clear hmap hb HO
    go_wp2
    go_loopw [12] (fun i wr => ∃ j : Nat, s' ≤ j ∧ j ≤ L.su.length + 1 ∧ i = .int .i64 j ∧ firstP g (L.su.length + 1 - s') s' = firstP g (L.su.length + 1 - j) j ∧ KeepM (MS L rs) w1 wr ∧ RM wr L rs) (fun i _ => L.su.length + 1 - (intOf i).toNat)
    case atStart => exact ⟨s', Nat.le_refl _, by omega, rfl, rfl, .refl hrm.out.maps, hrm.out⟩
    case round =>
      obtain ⟨j, hsj, hj, rfl, hfp, hkm, hrmj⟩ := hrel
      have HE := Lib.hid (end_any p V L wr ((hrw.out.keep hkm).cells) hl3)
      by_cases hlt2 : j < L.su.length + 1
      · have hfs : Hid (firstP g (L.su.length + 1 - j) j = match g j with | some l => some (l, j) | none => firstP g (L.su.length + 1 - (j + 1)) (j + 1)) := Lib.hid (by
          rw [show L.su.length + 1 - j = (L.su.length + 1 - (j + 1)) + 1 by omega]; rfl)
        replace hfp := Lib.hid hfp
        replace hkm := Lib.hid hkm
        replace hrmj := Lib.hid hrmj
        go_wp2_with (go_at_call 31; refine (HE.out).mono ?_; rintro e w' ⟨rfl, rfl⟩)
        refine (HRT.out p kb kc rs wr (hrw.out.keep hkm.out) hrmj.out j hsj (by omega)).mono ?_
        rw [HQ.out]
        rintro e w2 ⟨v, rfl, hp, hkm2, hrm2⟩
        replace hkm2 := Lib.hid (hkm.out.trans hkm2)
        replace hrm2 := Lib.hid hrm2
        clear hkm hrmj
        cases hgj : g j with
        | some l =>
          rw [hgj] at hp
          obtain ⟨A, c, rfl, hrow, hle⟩ := hp
          have hl12 := HL.out j l (by omega) hgj
          rw [hgj] at hfs
          have hbx : Below w2.heap.size w2 (w2.alloc (.cells #[.slice A l.length c, .bool true] 90)) := by (repeat (first | exact Below.refl _ _ | (with_reducible exact Hid.out (by assumption)) | refine below_al ?_ _ | refine below_dr ?_ | refine below_tr ?_ (by assumption) | refine below_tr ?_ (Bel.out (by assumption)) | refine below_tr ?_ (Bel.out (ov_bel _ _)) | refine below_set ?_ (by simp; try omega)))
          have HCl := Lib.hid (cloneHop_any A c l (w2.alloc (.cells #[.slice A l.length c, .bool true] 90)) (hrow.kept (kept_of_below hbx)) (by omega) hle)
          have hfin : Hid (Below w.heap.size w w2) := Lib.hid (KeepM.below hB.out hkm2.out (fun i ⟨k, hk, e⟩ => by subst e; have := hge.out k hk; simp at this; omega))
          clear hrow hkm2 hrm2 hB hge hbx
          go_wp2_with fail
          refine HCl.out.mono ?_
          rintro e w3 ⟨A', c', rfl, hrow', hle', hb3⟩
          replace hrow' := Lib.hid hrow'
          have hfin3 : Hid (Below w.heap.size w w3) := Lib.hid (below_tr (below_al hfin.out _) hb3)
          clear hb3 hfin
          go_wp2
          refine bodyPost_ret (v := .tuple #[.slice A' l.length c', .int .i64 j, .int .i64 0]) (by simp [results, Try.results17, go_sem]) rfl ?_
          rw [HS.out, hfp.out, hfs.out]
          exact ⟨A', c', rfl, hrow'.out, hle', hl12, hfin3.out⟩
        | none =>
          rw [hgj] at hp
          rw [hgj] at hfs
          replace hp : v = .agg #[.slice none (0 : Nat) (0 : Nat), .bool false] := hp
          subst hp
          have hbx : Below w2.heap.size w2 (w2.alloc (.cells #[.slice none (0 : Nat) (0 : Nat), .bool false] 90)) := by (repeat (first | exact Below.refl _ _ | (with_reducible exact Hid.out (by assumption)) | refine below_al ?_ _ | refine below_dr ?_ | refine below_tr ?_ (by assumption) | refine below_tr ?_ (Bel.out (by assumption)) | refine below_tr ?_ (Bel.out (ov_bel _ _)) | refine below_set ?_ (by simp; try omega)))
          have hk9 := Lib.hid (hkm2.out.trans (.of_below hrm2.out.maps hbx))
          have hr9 := Lib.hid (hrm2.out.below hbx)
          clear hbx hkm2 hrm2
          go_wp2
          go_roundw
          case rel => exact ⟨j + 1, by omega, by omega, by go_num, by rw [hfp.out, hfs.out], hk9.out, hr9.out⟩
          case measure => simp [intOf]; omega
      · obtain rfl : j = L.su.length + 1 := by omega
        have hfin : Hid (Below w.heap.size w wr) := Lib.hid (KeepM.below hB.out hkm (fun i ⟨k, hk, e⟩ => by subst e; have := hge.out k hk; simp at this; omega))
        rw [Nat.sub_self] at hfp
        replace hfp := Lib.hid hfp
        clear hkm hrmj
        go_wp2_with (go_at_call 31; refine (HE.out).mono ?_; rintro e w' ⟨rfl, rfl⟩)
        refine bodyPost_ret (v := .tuple #[.slice none (0 : Nat) (0 : Nat), .int .i64 0, .int .i64 10]) (by simp [results, Try.results17, go_sem]) rfl ?_
        rw [HS.out, hfp.out]
        exact ⟨none, 0, rfl, RowAt.nil _ _ _ _, Nat.zero_le _, Nat.zero_le _, hfin.out⟩
end Go.Proofs.Ytdfohielnfdmkaa

