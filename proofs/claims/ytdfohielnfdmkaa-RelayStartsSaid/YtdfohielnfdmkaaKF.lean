/- Part KF of the proof: Q · V · Y1. -/
import Derived.OwnWalkIn
import Derived.OrdersIn
import Derived.RangeFuncNested
import Derived.RangeFuncLeaves
import Derived.BigQuiet
import Derived.Lib.Hide
import Derived.Test.YtdfohielnfdmkaaKB
set_option linter.unusedVariables false
set_option linter.unusedSimpArgs false
/- More words: a drawn region of a walk inside the wide fence (in a round, too): what comes before number m is quiet, what comes from m on comes in one order alone. -/
namespace Go.Proofs.Ytdfohielnfdmkaa
open Go.RowKit
section
variable {P : Program} {ops opsP : Array Oper} {md : Region.Mode} {C : World → Prop} {F : Fence} {n s m : Nat}

def edgesB (md : Region.Mode) (ops : Array Oper) : Bool :=
  (List.range ops.size).all fun j => match ops[j]? with
    | some o => o.after.all fun e => !Region.binds md e || Nat.blt e.on j
    | none => true
/-- Each of the first m (but the first s) is waited for by a later one, up to m. -/
def chainB (md : Region.Mode) (ops : Array Oper) (s m : Nat) : Bool :=
  (List.range m).all fun i => Nat.blt i s || (List.range (m + 1)).any fun j => Nat.blt i j && match ops[j]? with
    | some o => o.after.any fun e => Region.binds md e && e.on == i
    | none => false
/-- Each behind m waits for one that is at least m. -/
def tailB (md : Region.Mode) (ops : Array Oper) (m : Nat) : Bool :=
  (List.range ops.size).all fun t => Nat.ble t m || match ops[t]? with
    | some o => o.after.any fun e => Region.binds md e && Nat.ble m e.on
    | none => true
def plainB (ops : Array Oper) (m : Nat) : Bool :=
  (List.range m).all fun j => match ops[j]? with
    | some o => (match o.guard with | some (g, _) => Nat.blt g m | none => true) && (match o.op with | .defer _ => false | _ => true)
    | none => false
def prefB (md : Region.Mode) (ops : Array Oper) (s m : Nat) : Bool := edgesB md ops && (m == ops.size || (chainB md ops s m && tailB md ops m)) && plainB ops m

theorem edgesB_spec (h : edgesB md ops = true) {j : Nat} {o : Oper} (hj : ops[j]? = some o) {e : Edge} (he : e ∈ o.after) (hb : Region.binds md e = true) : e.on < j := by
  have hlt : j < ops.size := (Array.getElem?_eq_some_iff.1 hj).1
  have h1 := List.all_eq_true.1 h j (List.mem_range.2 hlt)
  simp only [hj] at h1
  have h2 := Array.all_eq_true_iff_forall_mem.1 h1 e he
  simpa [hb] using h2

/-- What is listed is closed under the edges. -/
def LClosed (md : Region.Mode) (ops : Array Oper) (listed : Array Bool) : Prop :=
  ∀ j oj, ops[j]? = some oj → listed.getD j false = true → ∀ e ∈ oj.after, Region.binds md e = true → listed.getD e.on false = true
theorem LClosed.set {listed : Array Bool} {i : Nat} (h : LClosed md ops listed) (hi : i ∈ Region.ready md ops listed) : LClosed md ops (listed.setIfInBounds i true) := by
  obtain ⟨_, oi, hoi, hall⟩ := mem_ready.1 hi
  intro j oj hj hl e he hb
  by_cases hij : i = j
  · subst hij
    have : oj = oi := Option.some.inj (hj.symm.trans hoi)
    subst this
    exact getD_set_true (hall e he hb)
  · rw [getD_set_ne false hij] at hl
    exact getD_set_true (h j oj hj hl e he hb)

/-- The two lists of what has come up. -/
structure LRel (ops : Array Oper) (s m : Nat) (listed listedP : Array Bool) : Prop where
  pre : ∀ j, j < s → listed.getD j false = true
  size : listed.size = ops.size
  sizeP : listedP.size = m
  same : ∀ j, j < m → listedP[j]? = listed[j]?
  rest : ∀ j, m ≤ j → listed.getD j false = false

theorem LRel.set {listed listedP : Array Bool} {i : Nat} (h : LRel ops s m listed listedP) (hi : i < m) : LRel ops s m (listed.setIfInBounds i true) (listedP.setIfInBounds i true) := by
  refine ⟨fun j hj => getD_set_true (h.pre j hj), by simpa using h.size, by simpa using h.sizeP, fun j hj => ?_, fun j hj => ?_⟩
  · have := h.same j hj
    simp only [Array.getElem?_setIfInBounds]
    by_cases hij : i = j
    · subst hij
      have h1 := h.sizeP
      have h2 : i < listed.size := by
        rcases Nat.lt_or_ge i listed.size with h' | h'
        · exact h'
        · rw [Array.getElem?_eq_none h'] at this
          rw [Array.getElem?_eq_getElem (by omega)] at this
          cases this
      simp [h2, show i < listedP.size by omega]
    · simp [hij, this]
  · rw [getD_set_ne false (by omega)]
    exact h.rest j hj

theorem LRel.getD {listed listedP : Array Bool} (h : LRel ops s m listed listedP) (d : Bool) {j : Nat} (hj : j < m) : listedP.getD j d = listed.getD j d := by
  simp [Array.getD_eq_getD_getElem?, h.same j hj]

theorem LRel.ready (hP : ∀ j, j < m → opsP[j]? = ops[j]?) (hE : edgesB md ops = true) {listed listedP : Array Bool} (h : LRel ops s m listed listedP) {i : Nat} (hi : i < m) :
    i ∈ Region.ready md ops listed ↔ i ∈ Region.ready md opsP listedP := by
  rw [mem_ready, mem_ready, h.getD true hi, hP i hi]
  refine and_congr_right fun _ => exists_congr fun o => and_congr_right fun ho => forall_congr' fun e => forall_congr' fun he => forall_congr' fun hb => ?_
  rw [h.getD false (by have := edgesB_spec hE ho he hb; omega)]

/-- While one of the first m has not come up, none from m on may. -/
theorem LRel.front (hE : edgesB md ops = true) (hch : chainB md ops s m = true) (htl : tailB md ops m = true) {listed listedP : Array Bool} (h : LRel ops s m listed listedP) (hc : LClosed md ops listed)
    {i : Nat} (hi : i < m) (hun : listed.getD i true = false) {t : Nat} (ht : t ∈ Region.ready md ops listed) : t < m := by
  obtain ⟨_, o, ho, hall⟩ := mem_ready.1 ht
  rcases Nat.lt_or_ge t m with h' | h'
  · exact h'
  · exfalso
    rcases Nat.lt_or_ge m t with hmt | hmt
    · have h1 := List.all_eq_true.1 htl t (List.mem_range.2 (Array.getElem?_eq_some_iff.1 ho).1)
      simp only [ho, Bool.or_eq_true, Nat.ble_eq] at h1
      rcases h1 with h1 | h1
      · omega
      · obtain ⟨e, he, h2⟩ := Array.any_eq_true'.1 h1
        simp only [Bool.and_eq_true, Nat.ble_eq] at h2
        have := hall e he h2.1
        rw [h.rest e.on h2.2] at this
        cases this
    · obtain rfl : t = m := by omega
      -- each of the first t is listed: from t downward
      have key : ∀ k j, j < t → t ≤ j + k + 1 → listed.getD j false = true := by
        intro k
        induction k with
        | zero =>
          intro j hj hk
          by_cases hjs : j < s
          · exact h.pre j hjs
          have h1 := List.all_eq_true.1 hch j (List.mem_range.2 hj)
          rw [Bool.or_eq_true] at h1
          replace h1 := h1.resolve_left (by simpa using hjs)
          obtain ⟨u, hu, h2⟩ := List.any_eq_true.1 h1
          simp only [Bool.and_eq_true, Nat.blt_eq] at h2
          have hut := List.mem_range.1 hu
          obtain rfl : u = t := by omega
          simp only [ho] at h2
          obtain ⟨e, he, h3⟩ := Array.any_eq_true'.1 h2.2
          simp only [Bool.and_eq_true, beq_iff_eq] at h3
          rw [← h3.2]
          exact hall e he h3.1
        | succ k ih =>
          intro j hj hk
          by_cases hjs : j < s
          · exact h.pre j hjs
          have h1 := List.all_eq_true.1 hch j (List.mem_range.2 hj)
          rw [Bool.or_eq_true] at h1
          replace h1 := h1.resolve_left (by simpa using hjs)
          obtain ⟨u, hu, h2⟩ := List.any_eq_true.1 h1
          simp only [Bool.and_eq_true, Nat.blt_eq] at h2
          have hut := List.mem_range.1 hu
          rcases Nat.lt_or_ge u t with hlt | hge
          · have hul := ih u hlt (by omega)
            cases hou : ops[u]? with
            | none => rw [hou] at h2; simp at h2
            | some ou =>
              rw [hou] at h2
              obtain ⟨e, he, h3⟩ := Array.any_eq_true'.1 h2.2
              simp only [Bool.and_eq_true, beq_iff_eq] at h3
              rw [← h3.2]
              exact hc u ou hou hul e he h3.1
          · obtain rfl : u = t := by omega
            simp only [ho] at h2
            obtain ⟨e, he, h3⟩ := Array.any_eq_true'.1 h2.2
            simp only [Bool.and_eq_true, beq_iff_eq] at h3
            rw [← h3.2]
            exact hall e he h3.1
      have h1 := key t i hi (by omega)
      rcases Nat.lt_or_ge i listed.size with h' | h'
      · simp [h'] at hun h1
        rw [hun] at h1
        cases h1
      · simp [Array.getElem?_eq_none h'] at hun

/-- Something may come up while one of the first m has not. -/
theorem LRel.some_ready (hE : edgesB md ops = true) (hsz : m ≤ ops.size) {listed listedP : Array Bool} (h : LRel ops s m listed listedP) : ∀ (k i : Nat), i ≤ k → i < m → listed.getD i true = false → Region.ready md ops listed ≠ [] := by
  intro k
  induction k with
  | zero =>
    intro i hik hi hun hnil
    obtain rfl : i = 0 := by omega
    have h0 : 0 < ops.size := by omega
    have : (0 : Nat) ∈ Region.ready md ops listed := mem_ready.2 ⟨hun, ops[0], by simp [h0], fun e he hb => by
      have := edgesB_spec hE (j := 0) (o := ops[0]) (by simp [h0]) he hb
      omega⟩
    rw [hnil] at this
    cases this
  | succ k ih =>
    intro i hik hi hun hnil
    have hlt : i < ops.size := by omega
    by_cases hall : ∀ e ∈ ops[i].after, Region.binds md e = true → listed.getD e.on false = true
    · have : i ∈ Region.ready md ops listed := mem_ready.2 ⟨hun, ops[i], by simp [hlt], hall⟩
      rw [hnil] at this
      cases this
    · simp only [Classical.not_forall] at hall
      obtain ⟨e, he, hb, hn⟩ := hall
      have hlt' := edgesB_spec hE (j := i) (o := ops[i]) (by simp [hlt]) he hb
      refine ih e.on (by omega) (by omega) ?_ hnil
      have hs := h.size
      have : e.on < listed.size := by omega
      simp [this] at hn ⊢
      exact hn

theorem yielded_pref (hP : ∀ j, j < m → opsP[j]? = ops[j]?) {tmps : Array Value} {j : Nat} (hj : j < m) : yielded ops tmps j = yielded opsP tmps j := by
  unfold yielded
  rw [hP j hj]

theorem Oper.wpIn_of_quietW {o : Oper} {a : Act} {K : Act → Prop} {K' : Act → World → Prop} {Q' : Exit → Act → World → Prop} {w : World} (hfn : ∀ f, F.fn f) (hd : F.depth = none)
    (hcall : ∀ f args w R, Calls P f args w R → CallsIn F (n - 1) P f args w R) (hnd : ∀ c, o.op ≠ .defer c) (hw : C w) (h : ∀ a w', C w' → K a → K' a w')
    (hh : o.quiet P a C K) : o.wpIn F n P a w K' Q' := by
  obtain ⟨v, h1, h2⟩ := hh
  have h3 := h1 w hw
  unfold Oper.quietAt at h3
  unfold Oper.wpIn
  refine ⟨fun f _ => hfn f, ?_⟩
  rw [Oper.semAt_plain F _ _ hnd]
  generalize (execOp a.eval o).run P w = r at *
  cases r with
  | ok x w' =>
    cases x <;> simp only [Oper.quietUpon] at h3 <;> simp only [Oper.uponIn]
    case value u =>
      obtain ⟨e1, e2⟩ := h3
      rw [e1, e2]
      exact h _ _ hw h2
    case skip =>
      obtain ⟨e1, e2⟩ := h3
      rw [e1, ← e2]
      exact h _ _ hw h2
    case enter f args =>
      obtain ⟨e1, hc⟩ := h3
      rw [e1]
      exact ⟨fun hs => (by rw [hd] at hs; cases hs), (hcall _ _ _ _ hc).mono fun e w'' ⟨he, hw''⟩ => by subst he; exact h _ _ hw'' h2⟩
  | halt x w' => simp only [Oper.quietUpon] at h3

theorem wpAnyIn_pref {Q : Act → Prop} {Q' : Exit → Act → World → Prop} {listedM : Array Bool} (hfn : ∀ f, F.fn f) (hd : F.depth = none) (hcall : ∀ f args w R, Calls P f args w R → CallsIn F (n - 1) P f args w R)
    (hP : ∀ j, j < m → opsP[j]? = ops[j]?) (hsP : opsP.size = m) (hsz : m ≤ ops.size) (hB : prefB md ops s m = true)
    (hM : ∀ listed listedP, LRel ops s m listed listedP → (∀ j, j < m → listed.getD j true = true) → listed = listedM)
    (hQ : ∀ k a w, C w → Q a → wpAnyIn F n P md ops Q' (k + (ops.size - m)) listedM a w) :
    ∀ (fuel : Nat) (listed listedP : Array Bool) (a : Act) (w : World), LRel ops s m listed listedP → LClosed md ops listed → C w → wpAnyQ P md opsP C Q fuel listedP a →
      wpAnyIn F n P md ops Q' (fuel + (ops.size - m)) listed a w := by
  simp only [prefB, Bool.and_eq_true, Bool.or_eq_true, beq_iff_eq] at hB
  obtain ⟨⟨hE, hch⟩, hpl⟩ := hB
  have hdone : ∀ listed listedP, LRel ops s m listed listedP → Region.ready md opsP listedP = [] → ∀ j, j < m → listed.getD j true = true := by
    intro listed listedP hR hnil j hj
    cases hb : listed.getD j true with
    | true => rfl
    | false =>
      exfalso
      -- the least one that is not listed may come up
      have hne := hR.some_ready hE hsz j j (Nat.le_refl _) hj hb
      have : ∀ k i, i ≤ k → i < m → listed.getD i true = false → ∃ u, u < m ∧ u ∈ Region.ready md ops listed := by
        intro k
        induction k with
        | zero =>
          intro i hik hi hun
          obtain rfl : i = 0 := by omega
          have h0 : 0 < ops.size := by omega
          exact ⟨0, hi, mem_ready.2 ⟨hun, ops[0], by simp [h0], fun e he hb => by
            have := edgesB_spec hE (j := 0) (o := ops[0]) (by simp [h0]) he hb
            omega⟩⟩
        | succ k ih =>
          intro i hik hi hun
          have hlt : i < ops.size := by omega
          by_cases hall : ∀ e ∈ ops[i].after, Region.binds md e = true → listed.getD e.on false = true
          · exact ⟨i, hi, mem_ready.2 ⟨hun, ops[i], by simp [hlt], hall⟩⟩
          · simp only [Classical.not_forall] at hall
            obtain ⟨e, he, hb, hn⟩ := hall
            have hlt' := edgesB_spec hE (j := i) (o := ops[i]) (by simp [hlt]) he hb
            refine ih e.on (by omega) (by omega) ?_
            have hs := hR.size
            have : e.on < listed.size := by omega
            simp [this] at hn ⊢
            exact hn
      obtain ⟨u, hu, hm⟩ := this j j (Nat.le_refl _) hj hb
      rw [hR.ready hP hE hu, hnil] at hm
      cases hm
  intro fuel
  induction fuel with
  | zero =>
    intro listed listedP a w hR hc hw h
    have hl := hM listed listedP hR (hdone listed listedP hR h.1)
    subst hl
    exact hQ 0 a w hw h.2
  | succ fuel ih =>
    intro listed listedP a w hR hc hw h
    by_cases hnil : Region.ready md opsP listedP = []
    · have hl := hM listed listedP hR (hdone listed listedP hR hnil)
      subst hl
      exact hQ (fuel + 1) a w hw (h.1 hnil)
    · -- one of the first m may come up
      obtain ⟨j, hjP⟩ := List.exists_mem_of_ne_nil _ hnil
      have hjm : j < m := by
        obtain ⟨_, o, ho, _⟩ := mem_ready.1 hjP
        have := (Array.getElem?_eq_some_iff.1 ho).1
        omega
      have hjun : listed.getD j true = false := by rw [← hR.getD true hjm]; exact (mem_ready.1 hjP).1
      rw [show fuel + 1 + (ops.size - m) = (fuel + (ops.size - m)) + 1 by omega]
      refine ⟨fun h0 => ?_, fun i hi => ?_⟩
      · exact absurd h0 (hR.some_ready hE hsz j j (Nat.le_refl _) hjm hjun)
      · have him : i < m := by
          rcases hch with hms | hch
          · obtain ⟨_, o, ho, _⟩ := mem_ready.1 hi
            have := (Array.getElem?_eq_some_iff.1 ho).1
            omega
          · exact hR.front hE hch.1 hch.2 hc hjm hjun hi
        have hiP := (hR.ready hP hE him).1 hi
        have h2 := h.2 i hiP
        have hset := hc.set hi
        have hRs := hR.set him
        unfold qOp at h2
        unfold wpOpIn
        have hlt : i < ops.size := by omega
        have hoi : ops[i]? = some ops[i] := by simp [hlt]
        rw [hP i him, hoi] at h2
        rw [hoi]
        dsimp only at h2 ⊢
        have hpi := List.all_eq_true.1 hpl i (List.mem_range.2 him)
        rw [hoi] at hpi
        simp only [Bool.and_eq_true] at hpi
        have hwant : Region.wanted ops[i] (yielded ops a.tmps) = Region.wanted ops[i] (yielded opsP a.tmps) := by
          unfold Region.wanted
          cases hg : ops[i].guard with
          | none => rfl
          | some gb =>
            obtain ⟨g, b⟩ := gb
            have hgm : g < m := by have := hpi.1; rw [hg] at this; simpa using this
            simp only [yielded_pref hP hgm]
        have hnd : ∀ c, ops[i].op ≠ .defer c := by
          intro c hc
          have := hpi.2
          rw [hc] at this
          cases this
        rw [hwant]
        split
        · rename_i hw'
          simp only [hw', if_true] at h2
          exact Oper.wpIn_of_quietW hfn hd hcall hnd hw (fun a' w' hw'' hk => ih _ _ a' w' hRs hset hw'' hk) h2
        · rename_i hw'
          simp only [hw', Bool.false_eq_true, if_false] at h2
          exact ⟨fun f _ => hfn f, ih _ _ _ w hRs hset hw h2⟩

/-- **A drawn region inside the wide fence**: its first m operations quiet (walked once, in the text's order), what follows them walked behind. -/
theorem wpIn_region_pref {id : Nat} {Q' : Exit → Act → World → Prop} {a : Act} {w : World} {l : List Oper} (m t : Nat) (hfn : ∀ f, F.fn f) (hd : F.depth = none) (hcall : ∀ f args w R, Calls P f args w R → CallsIn F (n - 1) P f args w R)
    (hm : P.follows .mixedOrders = true) (hlen : l.length = m + t) (hB : prefB .any l.toArray 0 m = true) (hB2 : Region.lexB .any (l.take m).toArray = true) (hC : C w.drew)
    (h : wpQuiet P (l.take m).toArray C (fun a' => ∀ w', C w' → ∀ k, wpAnyIn F n P .any l.toArray Q' (k + t) (List.replicate m true ++ List.replicate t false).toArray a' w') (l.take m) a) :
    (Code.region id l.toArray true).wpIn F n P Q' a w := by
  have hml : m ≤ l.length := by omega
  obtain rfl : t = l.length - m := by omega
  refine wpIn_region_any hm ?_
  simp only [Region.lexB, Bool.and_eq_true] at hB2
  have hlt : (l.take m).length = m := by rw [List.length_take]; omega
  have h1 := wpAnyQ_lex (C := C) (md := .any) hB2.1 (l.take m) 0 (Array.replicate m false) a (by simp) (by simpa [hlt] using hB2.2) h
  have h2 := wpAnyIn_pref (ops := l.toArray) (opsP := (l.take m).toArray) (m := m) (md := .any) (C := C) (Q' := Q')
    (listedM := (List.replicate m true ++ List.replicate (l.length - m) false).toArray) hfn hd hcall
    (fun j hj => by simp [List.getElem?_take, hj]) (by simp; omega) (by simpa using hml) hB
    (fun listed listedP hR hall => by
      apply Array.ext
      · have := hR.size; simp at this ⊢; omega
      · intro i hi1 hi2
        by_cases him : i < m
        · have := hall i him
          simp [hi1] at this
          rw [this]
          simp [List.getElem_append, him]
        · have := hR.rest i (by omega)
          simp [hi1] at this
          rw [this]
          simp [List.getElem_append, him])
    (fun k a w hw hq => by simpa using hq w hw k)
    (l.take m).length (Array.replicate l.length false) (Array.replicate m false) a w.drew
    ⟨fun j hj => by omega, by simp, by simp, fun j hj => by simp [Array.getElem?_replicate, hj, show j < l.length by omega], fun j hj => by by_cases hjl : j < l.length <;> simp [hjl]⟩
    (fun j oj hj hl => by by_cases hjl : j < l.length <;> simp [hjl] at hl)
    hC h1
  have e1 : (l.take m).length + (l.toArray.size - m) = l.length := by simp; omega
  rw [e1] at h2
  simpa using h2
theorem wpIn_region_belP {id : Nat} {Q' : Exit → Act → World → Prop} {a : Act} {w : World} {l : List Oper} (m t : Nat) (hfn : ∀ f, F.fn f) (hd : F.depth = none) (hcall : ∀ f args w R, Calls P f args w R → CallsIn F (n - 1) P f args w R)
    (hm : P.follows .mixedOrders = true) (hlen : l.length = m + t) (hB : prefB .any l.toArray 0 m = true) (hB2 : Region.lexB .any (l.take m).toArray = true)
    (h : wpQuiet P (l.take m).toArray (Bel w) (fun a' => ∀ w', Bel w w' → ∀ k, wpAnyIn F n P .any l.toArray Q' (k + t) (List.replicate m true ++ List.replicate t false).toArray a' w') (l.take m) a) :
    (Code.region id l.toArray true).wpIn F n P Q' a w := wpIn_region_pref (C := Bel w) m t hfn hd hcall hm hlen hB hB2 ((Below.refl _ w).drew) h
/-- One operation alone may come up: it is passed over. -/
theorem wpAnyIn_skipW {Q : Exit → Act → World → Prop} {listed : Array Bool} {fuel i : Nat} {o : Oper} {a : Act} {w : World} (hfn : ∀ f, F.fn f) (hr : Region.ready md ops listed = [i]) (ho : ops[i]? = some o) (hw : Region.wanted o (yielded ops a.tmps) = false)
    (h : wpAnyIn F n P md ops Q fuel (listed.setIfInBounds i true) (a.put o.dst undef) w) : wpAnyIn F n P md ops Q (fuel + 1) listed a w :=
  wpAnyIn_ready hr (by simp) (AllReadyIn.cons ho (fun K hK => by rw [if_neg (by rw [hw]; exact Bool.false_ne_true)]; exact ⟨fun f _ => hfn f, hK _ _ h⟩) AllReadyIn.nil)
/-- One operation alone may come up: it is run. -/
theorem wpAnyIn_wantW {Q : Exit → Act → World → Prop} {listed : Array Bool} {fuel i : Nat} {o : Oper} {a : Act} {w : World} (hr : Region.ready md ops listed = [i]) (ho : ops[i]? = some o) (hw : Region.wanted o (yielded ops a.tmps) = true)
    (h : ∀ K : Act → World → Prop, (∀ a w, wpAnyIn F n P md ops Q fuel (listed.setIfInBounds i true) a w → K a w) → Oper.wpIn F n P o a w K Q) : wpAnyIn F n P md ops Q (fuel + 1) listed a w :=
  wpAnyIn_ready hr (by simp) (AllReadyIn.cons ho (fun K hK => by rw [if_pos hw]; exact h K hK) AllReadyIn.nil)
theorem grown_of_below {w w1 : World} (h : Below w.heap.size w w1) (row : Option Nat) : w.grownBy w1 row := ⟨h.os, h.tape, h.output, h.size, fun i hi _ => h.block i hi⟩
end
end Go.Proofs.Ytdfohielnfdmkaa

/- More words: worlds that lie above another one, as a function (for regions that draw their order: each operation is run against a frame that is a variable). -/
set_option linter.unusedVariables false
namespace Go.Proofs.Ytdfohielnfdmkaa
open Go.RowKit
open Classical in
/-- k, if it is w with new blocks, otherwise w. -/
noncomputable def ov (w k : World) : World := if Bel w k then k else w
theorem ov_bel (w k : World) : Bel w (ov w k) := by
  unfold ov
  split
  · assumption
  · exact Below.refl _ _
theorem bel_ov {w W : World} (h : Bel w W) : ∃ k, W = ov w k := ⟨W, by unfold ov; rw [if_pos h]⟩
theorem ov_cell (w k : World) (b o : Nat) : (ov w k).cell? ⟨b, o, none⟩ = if b < w.heap.size then w.cell? ⟨b, o, none⟩ else newCell (ov w k) b o := (ov_bel w k).cells b o
theorem ov_frozen (w k : World) (b o : Nat) : (ov w k).frozen? ⟨b, o, none⟩ = if b < w.heap.size then w.frozen? ⟨b, o, none⟩ else newFrozen (ov w k) b o := (ov_bel w k).frozens b o
theorem wp_region_ov {P : Program} {id : Nat} {Q : Exit → Act → World → Prop} {a : Act} {w : World} {l : List Oper} (hm : P.follows .mixedOrders = true) (hB : Region.lexB .any l.toArray = true)
    (h : ∀ R : Act → Prop, Hid (∀ a', (∀ w', Bel w w' → Q .normal a' w') → R a') → wpQuiet P l.toArray (fun W => ∃ k, W = ov w k) R l a) : (Code.region id l.toArray true).wp P Q a w :=
  wp_region_quiet (C := fun W => ∃ k, W = ov w k) hm hB (bel_ov (Below.refl _ w).drew) (by
    have := h (fun a' => ∀ w', Bel w w' → Q .normal a' w') (Lib.hid fun a' h => h)
    have h2 : (fun a' : Act => ∀ w', (∃ k, w' = ov w k) → Q .normal a' w') = (fun a' => ∀ w', Bel w w' → Q .normal a' w') := by
      funext a'
      exact propext ⟨fun h w' hw => h w' (bel_ov hw), fun h w' ⟨k, hk⟩ => h w' (hk ▸ ov_bel w k)⟩
    rw [h2]
    simpa using this)
theorem wpIn_region_ovP {P : Program} {F : Fence} {n : Nat} {id : Nat} {Q' : Exit → Act → World → Prop} {a : Act} {w : World} {l : List Oper} (m t : Nat) (hfn : ∀ f, F.fn f) (hd : F.depth = none) (hcall : ∀ f args w R, Calls P f args w R → CallsIn F (n - 1) P f args w R)
    (hm : P.follows .mixedOrders = true) (hlen : l.length = m + t) (hB : prefB .any l.toArray 0 m = true) (hB2 : Region.lexB .any (l.take m).toArray = true)
    (h : ∀ R : Act → Prop, Hid (∀ a', (∀ w', Bel w w' → ∀ k, wpAnyIn F n P .any l.toArray Q' (k + t) (List.replicate m true ++ List.replicate t false).toArray a' w') → R a') →
      wpQuiet P (l.take m).toArray (fun W => ∃ k, W = ov w k) R (l.take m) a) :
    (Code.region id l.toArray true).wpIn F n P Q' a w := by
  refine wpIn_region_pref (C := fun W => ∃ k, W = ov w k) m t hfn hd hcall hm hlen hB hB2 (bel_ov (Below.refl _ w).drew) ?_
  have h1 := h (fun a' => ∀ w', (∃ k, w' = ov w k) → ∀ k, wpAnyIn F n P .any l.toArray Q' (k + t) (List.replicate m true ++ List.replicate t false).toArray a' w') (Lib.hid fun a' h => fun w' ⟨k, hk⟩ => h w' (hk ▸ ov_bel w k))
  exact h1
theorem calls_ov {P : Program} {f : FuncId} {args : Array Value} {w k : World} {v : Value}
    (h : Calls P f args (ov w k) fun e w' => e = .returned v ∧ Below (ov w k).heap.size (ov w k) w') : Calls P f args (ov w k) fun e w' => e = .returned v ∧ ∃ k, w' = ov w k :=
  h.mono fun _ _ ⟨he, hb⟩ => ⟨he, bel_ov (below_tr (ov_bel w k) hb)⟩
theorem calls_ov_same {P : Program} {f : FuncId} {args : Array Value} {w k : World} {v : Value}
    (h : Calls P f args (ov w k) fun e w' => e = .returned v ∧ ov w k = w') : Calls P f args (ov w k) fun e w' => e = .returned v ∧ ∃ k, w' = ov w k :=
  h.mono fun _ _ ⟨he, hb⟩ => ⟨he, k, hb.symm⟩

theorem wpAnyQ_more {P : Program} {md : Region.Mode} {ops : Array Oper} {C : World → Prop} {Q : Act → Prop} (j : Nat) : ∀ (fuel : Nat) (listed : Array Bool) (a : Act), wpAnyQ P md ops C Q fuel listed a → wpAnyQ P md ops C Q (fuel + j) listed a
  | 0, listed, a, h => by
    cases j with
    | zero => exact h
    | succ j => rw [Nat.zero_add]; exact ⟨fun _ => h.2, fun i hi => by rw [h.1] at hi; cases hi⟩
  | fuel + 1, listed, a, h => by
    rw [show fuel + 1 + j = (fuel + j) + 1 by omega]
    exact ⟨h.1, fun i hi => qOp_mono (fun a' h' => wpAnyQ_more j fuel _ a' h') (h.2 i hi)⟩
def noDeferB (ops : Array Oper) : Bool := ops.toList.all fun o => match o.op with | .defer _ => false | _ => true
theorem wpAnyIn_of_quiet {P : Program} {F : Fence} {n : Nat} {md : Region.Mode} {ops : Array Oper} {C : World → Prop} {Q : Act → Prop} {Q' : Exit → Act → World → Prop} (hfn : ∀ f, F.fn f) (hd : F.depth = none) (hcall : ∀ f args w R, Calls P f args w R → CallsIn F (n - 1) P f args w R)
    (hnd : noDeferB ops = true) (hQ : ∀ a w, C w → Q a → Q' .normal a w) : ∀ (fuel : Nat) (listed : Array Bool) (a : Act) (w : World), C w → wpAnyQ P md ops C Q fuel listed a → wpAnyIn F n P md ops Q' fuel listed a w
  | 0, _, _, _, hw, h => ⟨h.1, hQ _ _ hw h.2⟩
  | fuel + 1, listed, a, w, hw, h => ⟨fun h0 => hQ _ _ hw (h.1 h0), fun i hi => by
      have h2 := h.2 i hi
      unfold qOp at h2
      unfold wpOpIn
      cases ho : ops[i]? with
      | none => simp only [ho] at h2; exact wpAnyIn_of_quiet hfn hd hcall hnd hQ fuel _ a w hw h2
      | some o =>
        simp only [ho] at h2
        have hdo : ∀ c, o.op ≠ .defer c := by
          intro c hc
          have := List.all_eq_true.1 hnd o (by rw [← Array.getElem?_toList] at ho; exact List.mem_of_getElem? ho)
          rw [hc] at this
          cases this
        dsimp only
        split
        · rename_i hw'
          simp only [hw', if_true] at h2
          exact Oper.wpIn_of_quietW hfn hd hcall hdo hw (fun a' w' hw'' hk => wpAnyIn_of_quiet hfn hd hcall hnd hQ fuel _ a' w' hw'' hk) h2
        · rename_i hw'
          simp only [hw', Bool.false_eq_true, if_false] at h2
          exact ⟨fun f _ => hfn f, wpAnyIn_of_quiet hfn hd hcall hnd hQ fuel _ _ w hw h2⟩⟩
/-- What is left of a drawn region, from number k on, is quiet: walked once, in the order of the text. -/
theorem wpAnyIn_restQ {P : Program} {F : Fence} {n : Nat} {ops l : List Oper} {listed : Array Bool} {Q' : Exit → Act → World → Prop} {a : Act} {w : World} {fuel j : Nat} (k : Nat) (hfn : ∀ f, F.fn f) (hd : F.depth = none) (hcall : ∀ f args w R, Calls P f args w R → CallsIn F (n - 1) P f args w R)
    (hl : ops.drop k = l) (hf : fuel = l.length + j) (hs : Region.noSelect ops.toArray = true) (hx : Region.lexFrom .any ops.toArray l.length k listed = true) (hnd : noDeferB ops.toArray = true)
    (h : ∀ R : Act → Prop, Hid (∀ a', Q' .normal a' w → R a') → wpQuiet P ops.toArray (fun W => W = w) R l a) : wpAnyIn F n P .any ops.toArray Q' fuel listed a w := by
  subst hf
  refine wpAnyIn_of_quiet (C := fun W => W = w) (Q := fun a' => Q' .normal a' w) hfn hd hcall hnd (fun a' w' hw hq => by subst hw; exact hq) _ _ _ _ rfl ?_
  refine wpAnyQ_more j _ _ _ (wpAnyQ_lex hs l k listed a (fun i => ?_) hx (h _ (Lib.hid fun _ h => h)))
  subst hl
  simp

/-- In a round a region without defer statements goes as everywhere. -/
theorem wpAnyIn_toRound {P : Program} {F : Fence} {n l : Nat} {md : Region.Mode} {ops : Array Oper} {Q : Exit → Act → World → Prop} (hnd : noDeferB ops = true) : ∀ (fuel : Nat) (listed : Array Bool) (a : Act) (w : World),
    wpAnyIn F n P md ops Q fuel listed a w → wpAnyIn (F.inRound l) n P md ops Q fuel listed a w
  | 0, _, _, _, h => h
  | fuel + 1, listed, a, w, h => ⟨h.1, fun i hi => by
      have h2 := wpOpIn_mono (fun a' w' h3 => wpAnyIn_toRound (l := l) hnd fuel _ a' w' h3) (h.2 i hi)
      unfold wpOpIn at h2 ⊢
      cases ho : ops[i]? with
      | none => simp only [ho] at h2 ⊢; exact h2
      | some o =>
        simp only [ho] at h2 ⊢
        have hdo : ∀ c, o.op ≠ .defer c := by
          intro c hc
          have := List.all_eq_true.1 hnd o (by rw [← Array.getElem?_toList] at ho; exact List.mem_of_getElem? ho)
          rw [hc] at this
          cases this
        split
        · rename_i hw'
          simp only [hw', if_true] at h2
          unfold Oper.wpIn at h2 ⊢
          rw [Oper.semAt_plain _ _ _ hdo] at h2 ⊢
          exact h2
        · rename_i hw'
          simp only [hw', Bool.false_eq_true, if_false] at h2
          exact h2⟩
/-- What is left of a drawn region, its first s operations over: those up to m are quiet, what follows is walked behind. -/
theorem wpAnyIn_midQ {P : Program} {F : Fence} {n : Nat} {Q' : Exit → Act → World → Prop} {a : Act} {w : World} {l : List Oper} {listed : Array Bool} {fuel : Nat} (s m t : Nat) (hfn : ∀ f, F.fn f) (hd : F.depth = none) (hcall : ∀ f args w R, Calls P f args w R → CallsIn F (n - 1) P f args w R)
    (hl : listed = (List.replicate s true ++ List.replicate (l.length - s) false).toArray) (hf : fuel = (m - s) + t) (hlen : l.length = m + t) (hsm : s ≤ m) (hB : prefB .any l.toArray s m = true) (hcl : ((List.range s).all fun j => match l.toArray[j]? with | some o => o.after.all fun e => !Region.binds .any e || Nat.blt e.on s | none => true) = true)
    (hN : Region.noSelect (l.take m).toArray = true) (hx : Region.lexFrom .any (l.take m).toArray (m - s) s (List.replicate s true ++ List.replicate (m - s) false).toArray = true)
    (h : ∀ R : Act → Prop, Hid (∀ a', (∀ w', Bel w w' → ∀ k, wpAnyIn F n P .any l.toArray Q' (k + t) (List.replicate m true ++ List.replicate t false).toArray a' w') → R a') →
      wpQuiet P (l.take m).toArray (fun W => ∃ k, W = ov w k) R ((l.take m).drop s) a) :
    wpAnyIn F n P .any l.toArray Q' fuel listed a w := by
  subst hl hf
  obtain rfl : t = l.length - m := by omega
  have hml : m ≤ l.length := by omega
  have h1 := h (fun a' => ∀ w', (∃ k, w' = ov w k) → ∀ k, wpAnyIn F n P .any l.toArray Q' (k + (l.length - m)) (List.replicate m true ++ List.replicate (l.length - m) false).toArray a' w') (Lib.hid fun a' h => fun w' ⟨k, hk⟩ => h w' (hk ▸ ov_bel w k))
  have hdl : ((l.take m).drop s).length = m - s := by rw [List.length_drop, List.length_take]; omega
  have h2 := wpAnyQ_lex (C := fun W => ∃ k, W = ov w k) (md := .any) hN ((l.take m).drop s) s (List.replicate s true ++ List.replicate (m - s) false).toArray a (fun j => by simp [List.getElem?_drop]) (by rw [hdl]; exact hx) h1
  rw [hdl] at h2
  have h3 := wpAnyIn_pref (ops := l.toArray) (opsP := (l.take m).toArray) (s := s) (m := m) (md := .any) (C := fun W => ∃ k, W = ov w k) (Q' := Q')
    (listedM := (List.replicate m true ++ List.replicate (l.length - m) false).toArray) hfn hd hcall
    (fun j hj => by simp [List.getElem?_take, hj]) (by simp; omega) (by simpa using hml) hB
    (fun listed listedP hR hall => by
      apply Array.ext
      · have := hR.size; simp at this ⊢; omega
      · intro i hi1 hi2
        by_cases him : i < m
        · have := hall i him
          simp [hi1] at this
          rw [this]
          simp [List.getElem_append, him]
        · have := hR.rest i (by omega)
          simp [hi1] at this
          rw [this]
          simp [List.getElem_append, him])
    (fun k a w hw hq => by simpa using hq w hw k)
    (m - s) (List.replicate s true ++ List.replicate (l.length - s) false).toArray (List.replicate s true ++ List.replicate (m - s) false).toArray a w
    ⟨fun j hj => by simp [List.getElem?_append, hj], by simp; omega, by simp; omega, fun j hj => by
      rcases Nat.lt_or_ge j s with h | h
      · simp [List.getElem?_append, h]
      · simp [List.getElem?_append, show ¬ j < s by omega, List.getElem?_replicate, show j - s < m - s by omega, show j - s < l.length - s by omega], fun j hj => by
      by_cases h' : j - s < l.length - s
      · simp [List.getElem?_append, show ¬ j < s by omega, List.getElem?_replicate, h']
      · simp [List.getElem?_append, show ¬ j < s by omega, List.getElem?_replicate, h']⟩
    (fun j oj hj hlj e he hb => by
      have hjs : j < s := by
        rcases Nat.lt_or_ge j s with h | h
        · exact h
        · by_cases h' : j - s < l.length - s
          · simp [List.getElem?_append, show ¬ j < s by omega, List.getElem?_replicate, h'] at hlj
          · simp [List.getElem?_append, show ¬ j < s by omega, List.getElem?_replicate, h'] at hlj
      have hc := List.all_eq_true.1 hcl j (List.mem_range.2 hjs)
      rw [hj] at hc
      have he' := Array.all_eq_true_iff_forall_mem.1 hc e he
      simp only [hb, Bool.not_true, Bool.false_or, Nat.blt_eq] at he'
      simp [List.getElem?_append, he'])
    (bel_ov (Below.refl _ _)) h2
  have e1 : (m - s) + (l.toArray.size - m) = (m - s) + (l.length - m) := by simp
  rw [e1] at h3
  exact h3

/-- A range over a function whose assignment to the left sides leaves the world alone: assignment and body are walked in one. -/
theorem wpIn_rangeFunc_B {P : Program} {F : Fence} {n : Nat} {α : Type} {g : Operand} {ps : Array Tmp} {assign body : Code} {Q : Exit → Act → World → Prop} {a : Act} {w : World}
    (hro : F.round = none) (h1 : 1 ≤ n) {gf : Nat} {lb : Array Value} (hg : a.eval g = .func (.func gf) #[] lb) (hFg : F.fn gf) (eg : ∀ args w, (callFunc gf args).run P w = .ok (.enter gf args) w)
    {encs : α → Array Value} {Kp : World → World → Prop} {S Sp : List α → Prop} {N : Nat} {w0 : World} (hseq : SeqStopsK F (n - 1) P gf lb encs Kp S Sp N w0)
    (hKt : ∀ {A B C : World}, Kp A B → Kp B C → Kp A C) (hKb : ∀ (W : World) (l : Nat) (o o' : Obj), w.heap.size ≤ l → W.heap[l]? = some o → o.isCells = false → o.isWalk = false → Kp W (W.putObj l o')) (hKr : ∀ W, Kp W W) (hb0 : Below w0.heap.size w0 w) (hps : ∀ x, (encs x).size = ps.size)
    (I : List α → World → Prop) (Ix : Code → List α → World → Prop) (hI : OwnFrom w.heap.size I) (hIx : ∀ c, OwnFrom w.heap.size (Ix c)) (h0 : I [] w)
    (hround : ∀ (l : Nat) (x : α) (W : World) (K : Act → World → Prop),
      (∀ a', (∀ (l : Nat) (pre : List α) (W : World), w.heap.size ≤ l → (∃ r, W.heap[l]? = some (.loop r)) → I pre W → pre.length < N → body.wpIn (F.inRound l) (n - 1 - 1) P (ownPostG w.heap.size Kp I Ix (pre ++ [x]) W) a' W) → K a' W) →
      assign.wpIn (F.inRound l) (n - 1 - 1) P (Exit.then K (fun _ _ _ => False)) { tmps := (ps.zip (encs x)).foldl (fun t (p, v) => t.setIfInBounds p v) a.tmps, defers := [] } W)
    (hdone : ∀ (D : Nat) (xs : List α) (W : World), w.heap.size ≤ D → S xs → I xs W → W.heap[D]? = some (.deferred (some [])) → Q .normal { a with defers := { target := .collected D, args := #[] } :: a.defers } W)
    (hstop : ∀ (D : Nat) (c : Code) (pre : List α) (W : World), w.heap.size ≤ D → Sp pre → Ix c pre W → W.heap[D]? = some (.deferred (some [])) → c.wpIn F n P Q { a with defers := { target := .collected D, args := #[] } :: a.defers } W) :
    (Code.rangeFunc g ps assign body).wpIn F n P Q a w :=
  wpIn_rangeFunc_ownH hro h1 hg hFg eg hseq hKt hKb hb0 hps I Ix hI hIx h0
    (fun x a' _ => ∀ (l : Nat) (pre : List α) (W : World), w.heap.size ≤ l → (∃ r, W.heap[l]? = some (.loop r)) → I pre W → pre.length < N → body.wpIn (F.inRound l) (n - 1 - 1) P (ownPostG w.heap.size Kp I Ix (pre ++ [x]) W) a' W)
    (fun _ _ _ _ _ _ hs _ _ => hs)
    (fun l pre x W K hi hK => hround l x W K (fun a' hb => hK a' W (KeepsFrom.refl _ _) (hKr W) hi hb))
    (fun l pre x a' W hl hr hi hax hlen => hax l pre W hl hr hi hlen) hdone hstop
end Go.Proofs.Ytdfohielnfdmkaa

/- More words: a load of a drawn region taken first: no operation that may come before it writes a cell. -/
set_option linter.unusedVariables false
namespace Go.Proofs.Ytdfohielnfdmkaa
open Go.RowKit

/-- No cell is written. -/
def NoWr {α : Type} : Sem α → Prop
  | .pure _ => True
  | .load _ _ k => ∀ v, NoWr (k v)
  | .store .. => False
  | .new _ k => ∀ r, NoWr (k r)
  | .shape _ k => ∀ r, NoWr (k r)
  | .freeze .. => False
  | .frozen _ k => ∀ r, NoWr (k r)
  | .getObj _ k => ∀ r, NoWr (k r)
  | .setObj .. => False
  | .choose _ k => ∀ r, NoWr (k r)
  | .sys .. => False
  | .program k => ∀ r, NoWr (k r)
  | .mark _ k => NoWr k
  | .halt _ => True
theorem NoWr.bind {α β : Type} {f : α → Sem β} (hf : ∀ a, NoWr (f a)) : ∀ {x : Sem α}, NoWr x → NoWr (x >>= f) := by
  intro x
  induction x with
  | pure a => intro _; exact hf a
  | load m a k ih => intro h v; exact ih v (h v)
  | store m a v k ih => intro h; exact h.elim
  | new o k ih => intro h r; exact ih r (h r)
  | shape o k ih => intro h r; exact ih r (h r)
  | freeze a n k ih => intro h; exact h.elim
  | frozen o k ih => intro h r; exact ih r (h r)
  | getObj o k ih => intro h r; exact ih r (h r)
  | setObj a n k ih => intro h; exact h.elim
  | choose o k ih => intro h r; exact ih r (h r)
  | sys a k ih => intro h; exact h.elim
  | program k ih => intro h r; exact ih r (h r)
  | mark m k ih => intro h; exact ih h
  | halt h => intro _; trivial
theorem NoWr.pure {α : Type} (a : α) : NoWr (Pure.pure a : Sem α) := trivial
theorem NoWr.map {α β : Type} {f : α → β} {x : Sem α} (h : NoWr x) : NoWr (f <$> x) := NoWr.bind (f := fun a => Pure.pure (f a)) (fun a => NoWr.pure _) h
theorem NoWr.mapM {α β : Type} {f : α → Sem β} (hf : ∀ a, NoWr (f a)) : ∀ xs : List α, NoWr (xs.mapM f)
  | [] => trivial
  | x :: xs => by rw [List.mapM_cons]; exact NoWr.bind (fun a => NoWr.bind (fun b => NoWr.pure _) (NoWr.mapM hf xs)) (hf x)
theorem NoWr.mapMA {α β : Type} {f : α → Sem β} (hf : ∀ a, NoWr (f a)) (xs : Array α) : NoWr (xs.mapM f) := by
  rw [Array.mapM_eq_mapM_toList]; exact NoWr.map (NoWr.mapM hf _)
theorem NoWr.run {α : Type} {P : Program} : ∀ {x : Sem α}, NoWr x → ∀ {w w' : World} {a : α}, x.run P w = .ok a w' → Kept w w' := by
  intro x
  induction x with
  | pure a => intro _ w w' b h; simp only [Sem.run] at h; cases h; exact Kept.refl _
  | load m a k ih =>
    intro h w w' b hr
    simp only [Sem.run] at hr
    split at hr
    · exact ih _ (h _) hr
    · split at hr
      · exact ih _ (h _) hr
      · cases hr
  | store m a v k ih => intro h; exact h.elim
  | new o k ih => intro h w w' b hr; exact (fun p v hv => ih _ (h _) hr p v ((World.cell?_alloc_old w _ _ (by have := cell_lt hv; omega)).trans hv))
  | shape o k ih => intro h w w' b hr; exact ih _ (h _) hr
  | freeze a n k ih => intro h; exact h.elim
  | frozen o k ih => intro h w w' b hr; exact ih _ (h _) hr
  | getObj o k ih =>
    intro h w w' b hr
    simp only [Sem.run] at hr
    split at hr
    · cases hr
    · exact ih _ (h _) hr
    · cases hr
  | setObj a n k ih => intro h; exact h.elim
  | choose o k ih =>
    intro h w w' b hr
    simp only [Sem.run] at hr
    split at hr
    · exact ih _ (h _) hr
    · exact fun p v hv => ih _ (h _) hr p v hv
  | sys a k ih => intro h; exact h.elim
  | program k ih => intro h w w' b hr; exact ih _ (h _) hr
  | mark m k ih => intro h w w' b hr; exact ih h hr
  | halt h => intro _ w w' b hr; simp only [Sem.run] at hr; cases hr

theorem nw_info (t : TypeId) : NoWr (typeInfo t) := by
  unfold typeInfo; refine NoWr.bind (fun p => ?_) (fun r => trivial); split <;> trivial
theorem nw_size (t : TypeId) : NoWr (sizeOf t) := NoWr.bind (fun a => NoWr.pure _) (nw_info t)
theorem nw_und (t : TypeId) : NoWr (underlying t) := by
  unfold underlying; refine NoWr.bind (fun p => ?_) (fun r => trivial); split <;> trivial
theorem nw_zero (t : TypeId) : NoWr (zeroValue t) := by
  unfold zeroValue; refine NoWr.bind (fun p => ?_) (nw_info t); split <;> trivial
theorem nw_agg (t : TypeId) : NoWr (isAgg t) := by
  unfold isAgg; refine NoWr.bind (fun p => ?_) (nw_und t); split <;> trivial
theorem nw_sure (v : Value) : NoWr (Instr.sureAddr v) := by unfold Instr.sureAddr; split <;> trivial
theorem nw_cells (a : Addr) : ∀ (n i : Nat) (acc : Array Value), NoWr (loadCellsFrom a i n acc)
  | 0, _, _ => trivial
  | n + 1, i, acc => fun v => nw_cells a n (i + 1) _
theorem nw_loadVar (t : TypeId) (a : Addr) : NoWr (loadVar t a) := by
  unfold loadVar
  refine NoWr.bind (fun b => ?_) (nw_agg t)
  split
  · exact NoWr.bind (fun n => NoWr.bind (fun c => NoWr.pure _) (nw_cells a n 0 #[])) (nw_size t)
  · exact fun v => trivial
theorem nw_load (t : TypeId) (v : Value) : NoWr (Instr.loadAt t v) := NoWr.bind (fun a => nw_loadVar t a) (nw_sure v)
theorem nw_noView (a : Addr) : NoWr (noView a) := by
  unfold noView
  refine NoWr.bind (fun b => ?_) ?_
  · split <;> trivial
  · unfold viewAt
    refine NoWr.bind (x := shape a.block) (fun s => ?_) (fun r => NoWr.pure _)
    split
    · trivial
    · refine NoWr.bind (x := getObj a.block) (fun s => ?_) (fun r => NoWr.pure _)
      split <;> trivial
theorem nw_byte (a : Addr) : NoWr (byteOf a) := by
  unfold byteOf
  split
  · trivial
  · refine NoWr.bind (fun p => NoWr.bind (fun u => NoWr.bind (x := shape a.block) (fun s => ?_) (fun r => NoWr.pure _)) ?_) (x := program) (fun r => NoWr.pure _)
    · split
      · dsimp only
        split
        · trivial
        · split <;> trivial
      · trivial
    · exact nw_noView a
theorem nw_field (s : TypeId) (v : Value) (f : Nat) : NoWr (Instr.fieldAt s v f) := by
  unfold Instr.fieldAt
  refine NoWr.bind (fun d => ?_) (nw_und s)
  split
  · split
    · refine NoWr.bind (fun a => NoWr.bind (fun b => NoWr.pure _) ?_) (nw_sure v)
      unfold fieldPlace
      refine NoWr.bind (fun n => ?_) (nw_size _)
      split
      · unfold partAt
        exact NoWr.bind (fun b => NoWr.bind (fun c => NoWr.pure _) (nw_byte _)) (nw_byte _)
      · trivial
    · trivial
  · trivial
theorem nw_bounds {α : Type} (k : IntKind) (x y : Int) (c : BoundsCode) : NoWr (boundsPanic k x y c : Sem α) := by
  have hp : ∀ b, NoWr (runtimePanic (RuntimeError.bounds (IntKind.i64.wrap x) y b c) : Sem α) := fun b p => trivial
  unfold boundsPanic
  dsimp only
  split
  · exact NoWr.bind hp (NoWr.map (fun r => NoWr.pure _))
  · exact NoWr.bind hp (NoWr.pure _)
theorem nw_int (v : Value) : NoWr (asIntOf v) := by unfold asIntOf; split <;> trivial
theorem nw_index (t : TypeId) (x i : Value) : NoWr (Instr.indexAt t x i) := by
  unfold Instr.indexAt
  refine NoWr.bind (fun ki => ?_) (nw_int i)
  split
  rename_i k n
  refine NoWr.bind (fun d => ?_) (nw_und t)
  have hjp : ∀ b : Option Addr × Nat × TypeId, NoWr (match b with
          | (base, len, elem) => (do
            let u ← underlying t
            let tiny : Bool := decide (len ≤ 1) && match u with
                | TypeDesc.array len elem => true
                | x => false
            match base with
              | some a =>
                if 0 ≤ n ∧ n < ↑len then do
                  let s ← sizeOf elem
                  pure (Value.pointer (some (a.add (n.toNat * s))))
                else
                  if tiny = true then
                    unsupported
                      (Unsupported.noEntry
                        "op/indexAddr.an index out of range at an array of length 0 or 1 (ledger 616)")
                  else boundsPanic k n (↑len) BoundsCode.index
              | none => boundsPanic k n 0 BoundsCode.index : Sem Value)) := by
    rintro ⟨base, len, elem⟩
    refine NoWr.bind (fun u => ?_) (nw_und t)
    dsimp only
    split
    · split
      · exact NoWr.bind (fun n => NoWr.pure _) (nw_size _)
      · generalize (decide (len ≤ 1) && _) = tiny
        cases tiny
        · exact nw_bounds _ _ _ _
        · trivial
    · exact nw_bounds _ _ _ _
  dsimp only
  split
  · exact NoWr.bind (fun n => NoWr.bind hjp (NoWr.pure _)) (nw_sure _)
  · exact NoWr.bind hjp (NoWr.pure _)
  · trivial
theorem nw_build (t : TypeId) (parts : Array (Nat × Value)) : NoWr (Instr.build t parts) := by
  unfold Instr.build
  refine NoWr.bind (fun z => NoWr.bind (fun d => ?_) (nw_und t)) (nw_zero t)
  split
  · refine NoWr.bind (fun pl => ?_) (NoWr.mapMA (fun f => NoWr.bind (fun n => NoWr.pure _) (nw_size _)) _)
    split <;> trivial
  · refine NoWr.bind (fun n => ?_) (nw_size _)
    split <;> trivial
  · trivial
theorem nw_buildSlice (t : TypeId) (n : Nat) (parts : Array (Nat × Value)) : NoWr (Instr.buildSlice t n parts) := by
  unfold Instr.buildSlice
  refine NoWr.bind (fun d => ?_) (nw_und t)
  split
  · rename_i el
    refine NoWr.bind (fun s => ?_) (nw_size _)
    dsimp only
    split
    · trivial
    · have hjp : ∀ z : Array Value, NoWr (match Instr.fill (fun i => some (i * s, s)) ((Array.range (n * s)).map (fun x => z[x % z.size]!)) parts.toList with
        | some cells => (do
          let a ← newRow el cells
          pure (Value.slice (some a) n n) : Sem Value)
        | x => stuck "buildSlice: a part of the wrong size") := by
        intro z
        split
        · exact NoWr.bind (fun a => NoWr.pure _) (fun r => NoWr.pure _)
        · trivial
      split
      · exact NoWr.bind hjp (NoWr.pure _)
      · exact NoWr.bind (fun v => NoWr.bind hjp (NoWr.pure _)) (nw_zero _)
  · trivial
/-- Operations that write no cell. -/
def stillK : Op → Bool
  | .move _ | .assign _ | .load .. | .fieldAddr .. | .indexAddr .. | .build .. | .buildSlice .. => true
  | _ => false
theorem still_run {P : Program} {o : Oper} (h : stillK o.op = true) {ρ : Operand → Value} {w w' : World} {x : Next} (hr : (execOp ρ o).run P w = .ok x w') : (∃ v, x = .value v) ∧ Kept w w' := by
  have val : ∀ {s : Sem Value}, NoWr s → (do let v ← s; pure (Next.value v) : Sem Next).run P w = .ok x w' → (∃ v, x = .value v) ∧ Kept w w' := fun {s} hs hr => by
    refine ⟨?_, NoWr.run (NoWr.bind (fun a => NoWr.pure _) hs) hr⟩
    simp only [Sem.run_bind] at hr
    cases hs2 : s.run P w with
    | ok v w2 => rw [hs2] at hr; simp at hr; exact ⟨v, hr.1.symm⟩
    | halt e w2 => rw [hs2] at hr; simp at hr
  unfold execOp at hr
  cases ho : o.op <;> rw [ho] at h hr <;> simp only [stillK] at h <;> first | cases h | skip
  · simp at hr; exact ⟨⟨_, hr.1.symm⟩, by rw [← hr.2]; exact Kept.refl _⟩
  · simp at hr; exact ⟨⟨_, hr.1.symm⟩, by rw [← hr.2]; exact Kept.refl _⟩
  · exact val (nw_build _ _) hr
  · exact val (nw_buildSlice _ _ _) hr
  · exact val (nw_load _ _) hr
  · exact val (nw_field _ _ _) hr
  · exact val (nw_index _ _ _) hr
section
variable {F : Fence} {n : Nat} {P : Program} {ops : Array Oper} {Q : Exit → Act → World → Prop} {md : Region.Mode}
/-- A load that gives a value wherever its cell holds it. -/
def LoadsAt (P : Program) (ops : Array Oper) (o : Oper) (p : Addr) (u v : Value) (a : Act) : Prop :=
  Region.wanted o (yielded ops a.tmps) = true ∧ (∀ w, w.cell? p = some u → (execOp a.eval o).run P w = .ok (.value v) w) ∧ ∀ w, o.about P w a.eval = none
theorem LoadsAt.wpOpIn {i : Nat} {o : Oper} {p : Addr} {u v : Value} {a : Act} (hro : F.round = none) (hi : ops[i]? = some o) (hy : LoadsAt P ops o p u v a) {K : Act → World → Prop} {w : World} (hp : w.cell? p = some u) (h : K (a.put o.dst v) w) : wpOpIn F n P ops Q i K a w := by
  unfold Go.wpOpIn
  simp only [hi]
  have hab : ∀ f, o.about P w a.eval = some f → F.fn f := fun f hf => by rw [hy.2.2 w] at hf; cases hf
  simp only [hy.1, if_true, Oper.wpIn, hro, Oper.semAt_none, hy.2.1 w hp, Oper.uponIn]
  exact ⟨hab, h⟩
theorem LoadsAt.of_same {o : Oper} {p : Addr} {u v : Value} {a a' : Act} (hy : LoadsAt P ops o p u v a) (he : execOp a'.eval o = execOp a.eval o)
    (hw : Region.wanted o (yielded ops a'.tmps) = Region.wanted o (yielded ops a.tmps)) (hb : ∀ w, o.about P w a'.eval = o.about P w a.eval) : LoadsAt P ops o p u v a' :=
  ⟨by rw [hw]; exact hy.1, fun w hp => by rw [he]; exact hy.2.1 w hp, fun w => by rw [hb w]; exact hy.2.2 w⟩
theorem wpOpIn_putL {j : Nat} {oi oj : Oper} {p : Addr} {u v : Value} (hro : F.round = none) (hj : ops[j]? = some oj) (hap : oi.apart ops oj = true) (hst : stillK oj.op = true)
    (hsi : ∀ cs b, oi.op ≠ .select cs b) (hsj : ∀ cs b, oj.op ≠ .select cs b)
    (hQ : ∀ c a w, Q (.panic c) (a.put oi.dst v) w → Q (.panic c) a w) {K : Act → World → Prop} {a : Act} {w : World} (hp : w.cell? p = some u)
    (hy : LoadsAt P ops oi p u v a) (h : wpOpIn F n P ops Q j K (a.put oi.dst v) w) :
    wpOpIn F n P ops Q j (fun a' w' => (LoadsAt P ops oi p u v a' ∧ w'.cell? p = some u) ∧ K (a'.put oi.dst v) w') a w := by
  obtain ⟨h1, h2, h3⟩ := Oper.apart_spec hap
  have keep : ∀ (a : Act), LoadsAt P ops oi p u v a → ∀ u', LoadsAt P ops oi p u v (a.put oj.dst u') := fun a hy u' =>
    hy.of_same (execOp_put oi hsi a oj.dst u' h3) (wanted_put oi a oj.dst u' h3) (fun w => about_put oi w a oj.dst u' h3)
  unfold wpOpIn at *
  simp only [hj] at *
  rw [wanted_put oj a oi.dst v h1, about_put oj w a oi.dst v h1] at h
  split
  · rename_i hw
    simp only [hw, if_true] at h
    unfold Oper.wpIn at *
    rw [about_put oj w a oi.dst v h1] at h
    refine ⟨h.1, ?_⟩
    have h := h.2
    rw [hro, Oper.semAt_none, execOp_put oj hsj a oi.dst v h1] at h
    rw [hro, Oper.semAt_none]
    have hsr := fun x w' => still_run (P := P) (o := oj) hst (ρ := a.eval) (w := w) (w' := w') (x := x)
    generalize (execOp a.eval oj).run P w = r at *
    cases r with
    | ok x w' =>
      obtain ⟨⟨y, rfl⟩, hk⟩ := hsr x w' rfl
      simp only [Oper.uponIn] at h ⊢
      exact ⟨⟨keep a hy y, hk _ _ hp⟩, by rw [← Act.put_comm a v y h2]; exact h⟩
    | halt x w' =>
      cases x <;> simp only [Oper.uponIn] at h ⊢
      case panic u => exact hQ _ _ _ h
  · rename_i hw
    simp only [hw] at h
    exact ⟨h.1, ⟨keep a hy _, hp⟩, by rw [← Act.put_comm a v undef h2]; exact h.2⟩
/-- Number j waits for number i, itself or through others. -/
def depB (md : Region.Mode) (ops : Array Oper) (i : Nat) : Nat → Nat → Bool
  | 0, _ => false
  | k + 1, j => match ops[j]? with
    | some o => o.after.any fun e => Region.binds md e && (e.on == i || depB md ops i k e.on)
    | none => false
theorem depB_listed {i : Nat} {listed : Array Bool} (hc : LClosed md ops listed) (hi : listed.getD i false = false) : ∀ (k j : Nat), depB md ops i k j = true → listed.getD j false = false
  | 0, j, h => by cases h
  | k + 1, j, h => by
    unfold depB at h
    split at h
    · rename_i o ho
      obtain ⟨e, he, h2⟩ := Array.any_eq_true'.1 h
      simp only [Bool.and_eq_true, Bool.or_eq_true, beq_iff_eq] at h2
      cases hl : listed.getD j false with
      | false => rfl
      | true =>
        have h3 := hc j o ho hl e he h2.1
        rcases h2.2 with rfl | h4
        · rw [hi] at h3; cases h3
        · rw [depB_listed hc hi k e.on h4] at h3; cases h3
    · cases h
theorem ready_dep {i j : Nat} {listed : Array Bool} (hc : LClosed md ops listed) (hi : listed.getD i false = false) (hj : j ∈ Region.ready md ops listed) (k : Nat) : depB md ops i k j = false := by
  cases k with
  | zero => rfl
  | succ k =>
    cases hd : depB md ops i (k + 1) j with
    | false => rfl
    | true =>
      exfalso
      obtain ⟨_, o, ho, hall⟩ := mem_ready.1 hj
      unfold depB at hd
      simp only [ho] at hd
      obtain ⟨e, he, h2⟩ := Array.any_eq_true'.1 hd
      simp only [Bool.and_eq_true, Bool.or_eq_true, beq_iff_eq] at h2
      have h3 := hall e he h2.1
      rcases h2.2 with rfl | h4
      · rw [hi] at h3; cases h3
      · rw [depB_listed hc hi k e.on h4] at h3; cases h3
theorem wpAnyIn_firstL {i : Nat} {oi : Oper} {p : Addr} {u v : Value} (hro : F.round = none) (hi : ops[i]? = some oi) (hsel : ∀ (j : Nat) (o : Oper) cs b, ops[j]? = some o → o.op ≠ .select cs b)
    (hQ : ∀ c a w, Q (.panic c) (a.put oi.dst v) w → Q (.panic c) a w) :
    ∀ (fuel : Nat) (listed : Array Bool) (a : Act) (w : World), LClosed md ops listed →
      (∀ j oj, ops[j]? = some oj → j ≠ i → listed.getD j true = false → depB md ops i ops.size j = false → oi.apart ops oj = true ∧ stillK oj.op = true) →
      i ∈ Region.ready md ops listed → LoadsAt P ops oi p u v a → w.cell? p = some u →
      wpAnyIn F n P md ops Q fuel (listed.setIfInBounds i true) (a.put oi.dst v) w → wpAnyIn F n P md ops Q (fuel + 1) listed a w := by
  intro fuel
  induction fuel with
  | zero =>
    intro listed a w _ _ hr hy hp H
    refine ⟨fun h => (by rw [h] at hr; cases hr), fun j hj => ?_⟩
    by_cases hji : j = i
    · subst hji; exact hy.wpOpIn hro hi hp H
    · have := ready_mono hj hji
      rw [H.1] at this
      cases this
  | succ fuel ih =>
    intro listed a w hcl hfree hr hy hp H
    refine ⟨fun h => (by rw [h] at hr; cases hr), fun j hj => ?_⟩
    by_cases hji : j = i
    · subst hji; exact hy.wpOpIn hro hi hp H
    · have h1 := H.2 j (ready_mono hj hji)
      obtain ⟨hjun, oj, hoj, hall⟩ := mem_ready.1 hj
      have hiun : listed.getD i false = false := by
        have h0 := (mem_ready.1 hr).1
        rcases Nat.lt_or_ge i listed.size with h' | h'
        · simp [h'] at h0 ⊢; exact h0
        · simp [Array.getElem?_eq_none h']
      obtain ⟨hap, hst⟩ := hfree j oj hoj hji hjun (ready_dep hcl hiun hj _)
      have h2 := wpOpIn_putL hro hoj hap hst (fun cs b => hsel i oi cs b hi) (fun cs b => hsel j oj cs b hoj) hQ hp hy h1
      have hfree' : ∀ k ok, ops[k]? = some ok → k ≠ i → (listed.setIfInBounds j true).getD k true = false →
          depB md ops i ops.size k = false → oi.apart ops ok = true ∧ stillK ok.op = true := fun k ok hk hki hun hno => by
        refine hfree k ok hk hki ?_ hno
        by_cases hjk : j = k
        · subst hjk; exact hjun
        · rw [getD_set_ne true hjk] at hun; exact hun
      refine wpOpIn_mono (fun a' w' h3 => ih (listed.setIfInBounds j true) a' w' (hcl.set hj) hfree' (ready_mono hr (Ne.symm hji)) h3.1.1 h3.1.2 ?_) h2
      rw [Array.setIfInBounds_comm _ _ hji]
      exact h3.2
/-- Each that is not listed and does not wait for number i writes no cell and is apart from it. -/
def stillB (md : Region.Mode) (ops : Array Oper) (listed : Array Bool) (i : Nat) (oi : Oper) : Bool :=
  (List.range ops.size).all fun j => j == i || listed.getD j true || depB md ops i ops.size j || match ops[j]? with
    | some o => stillK o.op && oi.apart ops o
    | none => true
theorem stillB_spec {listed : Array Bool} {i j : Nat} {oi oj : Oper} (h : stillB md ops listed i oi = true) (hj : ops[j]? = some oj) (hji : j ≠ i) (hl : listed.getD j true = false) (hn : depB md ops i ops.size j = false) : oi.apart ops oj = true ∧ stillK oj.op = true := by
  have := List.all_eq_true.1 h j (List.mem_range.2 (Array.getElem?_eq_some_iff.1 hj).1)
  simp only [hj, hl, hn, Bool.or_false, Bool.or_eq_true, beq_iff_eq, hji, false_or, Bool.and_eq_true] at this
  exact ⟨this.2, this.1⟩
def closedB (md : Region.Mode) (ops : Array Oper) (listed : Array Bool) : Bool :=
  (List.range ops.size).all fun j => !listed.getD j false || match ops[j]? with
    | some o => o.after.all fun e => !Region.binds md e || listed.getD e.on false
    | none => true
theorem closedB_spec {listed : Array Bool} (h : closedB md ops listed = true) : LClosed md ops listed := fun j oj hj hl e he hb => by
  have := List.all_eq_true.1 h j (List.mem_range.2 (Array.getElem?_eq_some_iff.1 hj).1)
  simp only [hj, hl, Bool.not_true, Bool.false_or] at this
  have h2 := Array.all_eq_true_iff_forall_mem.1 this e he
  simpa [hb] using h2
/-- A load is taken first. -/
theorem wpAnyIn_takeL {i : Nat} {oi : Oper} {v : Value} {fuel : Nat} {listed : Array Bool} {a : Act} {w : World} (p : Addr) (u : Value) (hro : F.round = none) (hi : ops[i]? = some oi)
    (hs : Region.noSelect ops = true) (hB : stillB md ops listed i oi = true) (hC : closedB md ops listed = true) (hr : (Region.ready md ops listed).contains i = true)
    (hQ : ∀ c a w, Q (.panic c) (a.put oi.dst v) w → Q (.panic c) a w) (hp : w.cell? p = some u) (hy : LoadsAt P ops oi p u v a)
    (h : wpAnyIn F n P md ops Q fuel (listed.setIfInBounds i true) (a.put oi.dst v) w) : wpAnyIn F n P md ops Q (fuel + 1) listed a w :=
  wpAnyIn_firstL hro hi (Region.noSelect_spec hs) hQ fuel listed a w (closedB_spec hC) (fun j oj hj hji hl hn => stillB_spec hB hj hji hl hn) (by simpa using hr) hy hp h
end
end Go.Proofs.Ytdfohielnfdmkaa

