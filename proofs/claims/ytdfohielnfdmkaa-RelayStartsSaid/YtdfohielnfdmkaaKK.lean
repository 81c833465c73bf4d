/- Part KK of the proof: G · T · R6 · T2 · R7 · R8. -/
import Derived.Deep.LoopGhost
import Derived.Shelf.RegionOpen
import Derived.Test.YtdfohielnfdmkaaKG
import Derived.Test.YtdfohielnfdmkaaKJ
set_option linter.unusedVariables false
set_option linter.unusedSimpArgs false
/- More words: the marks that ranges over functions leave among a function's deferred calls; loops in whose rounds such ranges stand. -/
set_option linter.unusedVariables false
namespace Go.Proofs.Ytdfohielnfdmkaa
open Go.RowKit

/-- The marks of the blocks Dl. -/
def mks (Dl : List Nat) : List Deferred := Dl.map fun D => { target := .collected D, args := #[] }
theorem mks_cons (D : Nat) (Dl : List Nat) : ({ target := .collected D, args := #[] } : Deferred) :: mks Dl = mks (D :: Dl) := rfl
/-- The blocks of the marks, all from B on, are open. -/
structure MksOk (B : Nat) (Dl : List Nat) (w : World) : Prop where
  nodup : Dl.Nodup
  ge : ∀ D, D ∈ Dl → B ≤ D
  op : ∀ D, D ∈ Dl → w.heap[D]? = some (.deferred (some []))
theorem MksOk.nil (B : Nat) (w : World) : MksOk B [] w := ⟨List.nodup_nil, fun _ h => (by cases h), fun _ h => (by cases h)⟩
theorem MksOk.lt {B : Nat} {Dl : List Nat} {w : World} (h : MksOk B Dl w) {D : Nat} (hD : D ∈ Dl) : D < w.heap.size := (Array.getElem?_eq_some_iff.1 (h.op D hD)).1
theorem MksOk.same {B : Nat} {Dl : List Nat} {w w' : World} (h : MksOk B Dl w) (hs : ∀ (k : Nat) (ds : Option (List Deferred)), w.heap[k]? = some (.deferred ds) → w'.heap[k]? = some (.deferred ds)) : MksOk B Dl w' :=
  ⟨h.nodup, h.ge, fun D hD => hs D _ (h.op D hD)⟩
theorem MksOk.below {B : Nat} {Dl : List Nat} {w w' : World} (h : MksOk B Dl w) (hb : Below w.heap.size w w') : MksOk B Dl w' :=
  h.same fun k ds hk => (hb.block k (Array.getElem?_eq_some_iff.1 hk).1).trans hk
theorem MksOk.keepM {S : Nat → Prop} {B : Nat} {Dl : List Nat} {w w' : World} (h : MksOk B Dl w) (hk : KeepM S w w') : MksOk B Dl w' :=
  h.same fun k ds hh => (hk.block k (Array.getElem?_eq_some_iff.1 hh).1 (fun hs => by obtain ⟨es, c, he⟩ := hk.old k hs; rw [he] at hh; cases hh)).trans hh
theorem MksOk.set {B : Nat} {Dl : List Nat} {w : World} (h : MksOk B Dl w) (a : Addr) (v : Value) : MksOk B Dl (w.setCell a v) :=
  h.same fun k ds hk => (KeepsOthers.setCell w a v).same k _ hk rfl
theorem MksOk.cons {B : Nat} {Dl : List Nat} {w : World} (h : MksOk B Dl w) {D : Nat} (hn : D ∉ Dl) (hB : B ≤ D) (hD : w.heap[D]? = some (.deferred (some []))) : MksOk B (D :: Dl) w :=
  ⟨List.nodup_cons.2 ⟨hn, h.nodup⟩, fun E hE => by cases hE with
    | head => exact hB
    | tail _ hE => exact h.ge E hE, fun E hE => by cases hE with
    | head => exact hD
    | tail _ hE => exact h.op E hE⟩
/-- Behind a function that has left: the blocks are shut, all else lies as it lay. -/
structure Shut (B : Nat) (w w' : World) : Prop where
  below : Below B w w'
  kept : Kept w w'
  keeps : ∀ (k : Nat) (es : Array MapEntry) (c : Nat), w.heap[k]? = some (.map es c) → w'.heap[k]? = some (.map es c)
  froz : ∀ b o, (w.cell? ⟨b, o, none⟩).isSome = true → w'.frozen? ⟨b, o, none⟩ = w.frozen? ⟨b, o, none⟩
theorem Shut.refl (B : Nat) (w : World) : Shut B w w := ⟨Below.refl _ _, Kept.refl _, fun _ _ _ h => h, fun _ _ _ => rfl⟩
theorem Shut.trans {B : Nat} {a b c : World} (h : Shut B a b) (k : Shut B b c) : Shut B a c :=
  ⟨h.below.trans k.below, h.kept.trans k.kept, fun i es n hi => k.keeps i es n (h.keeps i es n hi), fun b o hs => by
    obtain ⟨v, hv⟩ := Option.isSome_iff_exists.1 hs
    exact (k.froz b o (by rw [h.kept _ _ hv]; rfl)).trans (h.froz b o hs)⟩
theorem Shut.one {B : Nat} {w : World} {D : Nat} {x : Option (List Deferred)} (hB : B ≤ D) (hK : w.heap[D]? = some (.deferred x)) : Shut B w (w.putObj D (.deferred none)) :=
  ⟨below_put (Below.refl _ _) hB hK _, kept_collected hK _, fun k es c hk => (World.putObj_heap_other (by intro e; rw [e, hK] at hk; cases hk)).trans hk,
   fun b o hs => by
    have hne : b ≠ D := by
      intro e; subst e
      simp [World.cell?, hK] at hs
    exact World.frozen?_of_block (World.putObj_heap_other hne)⟩
theorem leaves_marks {F : Fence} {n : Nat} {P : Program} {fn : Func} {tmps : Array Value} {R : Ending → World → Prop} {B : Nat} : ∀ (Dl : List Nat) (w : World), MksOk B Dl w →
    (∀ w', Shut B w w' → ∃ v, (results fn tmps).run P w' = .ok v w' ∧ R (.returned v) w') → LeavesInM F n P fn tmps R (mks Dl) .returning w
  | [], w, _, h => h w (Shut.refl _ _)
  | D :: Dl, w, ho, h => by
    have hD := ho.op D (List.mem_cons_self ..)
    refine ⟨by simp, .inl ⟨D, _, rfl, run_takeDeferred hD, ?_⟩⟩
    have hs := Shut.one (ho.ge D (List.mem_cons_self ..)) hD
    refine leaves_marks Dl _ ⟨(List.nodup_cons.1 ho.nodup).2, fun E hE => ho.ge E (List.mem_cons_of_mem _ hE), fun E hE => ?_⟩ (fun w' hw' => h w' (hs.trans hw'))
    have hne : E ≠ D := fun e => (List.nodup_cons.1 ho.nodup).1 (e ▸ hE)
    exact (World.putObj_heap_other hne).trans (ho.op E (List.mem_cons_of_mem _ hE))
/-- A function returns that has run ranges over functions. -/
theorem retMs {F : Fence} {n : Nat} {P : Program} {fn : Func} {R : Ending → World → Prop} {tmps : Array Value} {w : World} {B : Nat} {Dl : List Nat} (ho : MksOk B Dl w)
    (h : ∀ w', Shut B w w' → ∃ v, (results fn tmps).run P w' = .ok v w' ∧ R (.returned v) w') : bodyPostM F n P fn R .ret { tmps := tmps, defers := mks Dl } w := leaves_marks Dl w ho h
/-- What a loop must hand on, behind a name. -/
def Onw (I : Nat → Act → World → Prop) (n : Nat) (a : Act) (w : World) : Prop := ∃ n', n' < n ∧ I n' a w
theorem wp_loop_on {P : Program} {Q : Exit → Act → World → Prop} {a : Act} {w : World} {c : Code} (I : Nat → Act → World → Prop) (n₀ : Nat) (h₀ : I n₀ a w)
    (round : ∀ n a w, I n a w → ∀ K : Act → World → Prop, (∀ a' w', Onw I n a' w' → K a' w') → c.wp P (Exit.then K Q) a w) : (Code.loop c).wp P Q a w :=
  wp_loop_ghost_k I n₀ h₀ fun n a w h J K hJ hK => round n a w h K fun a' w' ⟨n', h1, h2⟩ => hK a' w' ⟨n', h1, hJ _ _ _ h2⟩
end Go.Proofs.Ytdfohielnfdmkaa

/- Plain laws on tables of earliest hours, and how the program and the reference fill them: no program in sight. -/
namespace Go.Proofs.Ytdfohielnfdmkaa

def Closed (n E : Nat) (g : Nat → Nat → Nat → Bool) (t : Nat → Nat) : Prop :=
  ∀ a b h, a < n → b < n → t a ≤ h → h < E → g a b h = true → t b ≤ h + 1
def Supported (n E : Nat) (g : Nat → Nat → Nat → Bool) (src : Nat) (t : Nat → Nat) : Prop :=
  ∀ b, b < n → t b ≤ E → b = src ∨ ∃ a h, a < n ∧ t a ≤ h ∧ h < E ∧ g a b h = true ∧ t b = h + 1
structure IsTable (n E : Nat) (g : Nat → Nat → Nat → Bool) (src start : Nat) (t : Nat → Nat) : Prop where
  init : t src = start
  closed : Closed n E g t
  supp : Supported n E g src t
  hi : ∀ b, b < n → t b ≤ E + 1

theorem IsTable.low {n E src start : Nat} {g g' : Nat → Nat → Nat → Bool} {t p : Nat → Nat} (h : IsTable n E g src start t)
    (hp : p src ≤ start) (hc : Closed n E g' p) (hg : ∀ a b k, a < n → b < n → k < E → g a b k = true → g' a b k = true) :
    ∀ b, b < n → t b ≤ E → p b ≤ t b := by
  have key : ∀ v b, t b = v → b < n → t b ≤ E → p b ≤ t b := by
    intro v
    induction v using Nat.strongRecOn with
    | _ v ih =>
      intro b hv hb hE
      rcases h.supp b hb hE with rfl | ⟨a, k, ha, hak, hk, hgk, htb⟩
      · rw [h.init]; exact hp
      · have := ih (t a) (by omega) a rfl ha (by omega)
        have := hc a b k ha hb (by omega) hk (hg a b k ha hb hk hgk)
        omega
  exact fun b hb hE => key (t b) b rfl hb hE

theorem IsTable.ge {n E src start : Nat} {g : Nat → Nat → Nat → Bool} {t : Nat → Nat} (h : IsTable n E g src start t) :
    ∀ b, b < n → t b ≤ E → start ≤ t b := by
  have key : ∀ v b, t b = v → b < n → t b ≤ E → start ≤ t b := by
    intro v
    induction v using Nat.strongRecOn with
    | _ v ih =>
      intro b hv hb hE
      rcases h.supp b hb hE with rfl | ⟨a, k, ha, hak, hk, hgk, htb⟩
      · rw [h.init]; exact Nat.le_refl _
      · have := ih (t a) (by omega) a rfl ha (by omega)
        omega
  exact fun b hb hE => key (t b) b rfl hb hE

theorem IsTable.unique {n E src start : Nat} {g : Nat → Nat → Nat → Bool} {t t' : Nat → Nat} (h : IsTable n E g src start t)
    (h' : IsTable n E g src start t') : ∀ b, b < n → t b = t' b := by
  intro b hb
  have l1 := h.low (p := t') (by rw [h'.init]; exact Nat.le_refl _) h'.closed (fun _ _ _ _ _ _ x => x) b hb
  have l2 := h'.low (p := t) (by rw [h.init]; exact Nat.le_refl _) h.closed (fun _ _ _ _ _ _ x => x) b hb
  have := h.hi b hb
  have := h'.hi b hb
  by_cases e : t b ≤ E
  · have := l1 e; have := l2 (by omega); omega
  · by_cases e' : t' b ≤ E
    · have := l2 e'; omega
    · omega

/-- With more flashes nobody gets it later. -/
theorem IsTable.mono {n E src start : Nat} {g g' : Nat → Nat → Nat → Bool} {t t' : Nat → Nat} (h : IsTable n E g src start t)
    (h' : IsTable n E g' src start t') (hg : ∀ a b k, a < n → b < n → k < E → g a b k = true → g' a b k = true) :
    ∀ b, b < n → t' b ≤ t b := by
  intro b hb
  have := h'.hi b hb
  by_cases e : t b ≤ E
  · exact h.low (p := t') (by rw [h'.init]; exact Nat.le_refl _) h'.closed hg b hb e
  · omega

/-- Who begins earlier is nowhere later. -/
theorem IsTable.earlier {n E src start start' : Nat} {g : Nat → Nat → Nat → Bool} {t t' : Nat → Nat} (h : IsTable n E g src start t)
    (h' : IsTable n E g src start' t') (hs : start' ≤ start) : ∀ b, b < n → t' b ≤ t b := by
  intro b hb
  have := h'.hi b hb
  by_cases e : t b ≤ E
  · exact h.low (p := t') (by rw [h'.init]; exact hs) h'.closed (fun _ _ _ _ _ _ x => x) b hb e
  · omega

/-- A chain of hops that works arrives no earlier than the table says. -/
theorem IsTable.hop {n E src start : Nat} {g : Nat → Nat → Nat → Bool} {t : Nat → Nat} (h : IsTable n E g src start t)
    {a b k now : Nat} (ha : a < n) (hb : b < n) (hnow : t a ≤ now) (hk : now ≤ k) (hE : k < E) (hg : g a b k = true) : t b ≤ k + 1 :=
  h.closed a b k ha hb (by omega) hE hg

/-- What holds of the program's hours at every point of its search. -/
structure Inv (n E : Nat) (g : Nat → Nat → Nat → Bool) (src start : Nat) (t : Nat → Nat) : Prop where
  init : t src = start
  supp : Supported n E g src t
  hi : ∀ b, t b ≤ E + 1
  lo : ∀ b, start ≤ t b

def low1 (t : Nat → Nat) (b v : Nat) : Nat → Nat := fun x => if x = b then min (t b) v else t x

theorem low1_le (t : Nat → Nat) (b v x : Nat) : low1 t b v x ≤ t x := by
  unfold low1; split
  · rename_i h; subst h; omega
  · omega
theorem low1_at (t : Nat → Nat) (b v : Nat) : low1 t b v b ≤ v := by unfold low1; rw [if_pos rfl]; omega

theorem Inv.relax {n E src start : Nat} {g : Nat → Nat → Nat → Bool} {t : Nat → Nat} (h : Inv n E g src start t) {a b k : Nat}
    (ha : a < n) (hk : k < E) (hak : t a ≤ k) (hg : g a b k = true) : Inv n E g src start (low1 t b (k + 1)) := by
  refine ⟨?_, ?_, ?_, ?_⟩
  · have := h.lo a; have := h.init
    unfold low1; split
    · rename_i e; subst e; omega
    · exact h.init
  · intro x hx hE
    by_cases hlt : x = b ∧ k + 1 < t b
    · obtain ⟨rfl, hlt⟩ := hlt
      refine .inr ⟨a, k, ha, Nat.le_trans (low1_le _ _ _ _) hak, hk, hg, ?_⟩
      unfold low1; rw [if_pos rfl]; omega
    · have e : low1 t b (k + 1) x = t x := by
        unfold low1; split
        · rename_i e; subst e; omega
        · rfl
      rw [e] at hE ⊢
      rcases h.supp x hx hE with r | ⟨a', k', h1, h2, h3, h4, h5⟩
      · exact .inl r
      · exact .inr ⟨a', k', h1, Nat.le_trans (low1_le _ _ _ _) h2, h3, h4, h5⟩
  · intro x; exact Nat.le_trans (low1_le _ _ _ _) (h.hi x)
  · intro x
    have := h.lo a; have := h.lo b; have := h.lo x
    unfold low1; split <;> omega

theorem Inv.start {n E src start : Nat} {g : Nat → Nat → Nat → Bool} (hs : start ≤ E) :
    Inv n E g src start (fun x => if x = src then start else E + 1) := by
  refine ⟨by simp, ?_, ?_, ?_⟩
  · intro b _ hE
    by_cases e : b = src
    · exact .inl e
    · exact absurd hE (by simp [e])
  · intro b; split <;> omega
  · intro b; split <;> omega

/-- What a pass over the stations has seen to: all flashes of the stations below A. -/
def Seen (n E : Nat) (g : Nat → Nat → Nat → Bool) (before t : Nat → Nat) (A : Nat) : Prop :=
  ∀ a b k, a < A → b < n → before a ≤ k → k < E → g a b k = true → t b ≤ k + 1
/-- .. of station a the hours from its own one to K. -/
def SeenHours (n : Nat) (g : Nat → Nat → Nat → Bool) (before t : Nat → Nat) (a K : Nat) : Prop :=
  ∀ b k, b < n → before a ≤ k → k < K → g a b k = true → t b ≤ k + 1
/-- .. of station a at the hour K the stations below B. -/
def SeenTo (g : Nat → Nat → Nat → Bool) (t : Nat → Nat) (a K B : Nat) : Prop :=
  ∀ b, b < B → g a b K = true → t b ≤ K + 1

theorem Seen.down {n E A : Nat} {g : Nat → Nat → Nat → Bool} {before t t' : Nat → Nat} (h : Seen n E g before t A) (hd : ∀ x, t' x ≤ t x) : Seen n E g before t' A :=
  fun a b k h1 h2 h3 h4 h5 => Nat.le_trans (hd b) (h a b k h1 h2 h3 h4 h5)
theorem SeenHours.down {n a K : Nat} {g : Nat → Nat → Nat → Bool} {before t t' : Nat → Nat} (h : SeenHours n g before t a K) (hd : ∀ x, t' x ≤ t x) : SeenHours n g before t' a K :=
  fun b k h1 h2 h3 h4 => Nat.le_trans (hd b) (h b k h1 h2 h3 h4)
theorem SeenTo.down {a K B : Nat} {g : Nat → Nat → Nat → Bool} {t t' : Nat → Nat} (h : SeenTo g t a K B) (hd : ∀ x, t' x ≤ t x) : SeenTo g t' a K B :=
  fun b h1 h2 => Nat.le_trans (hd b) (h b h1 h2)
theorem Seen.next {n E A K : Nat} {g : Nat → Nat → Nat → Bool} {before t : Nat → Nat} (h : Seen n E g before t A) (hh : SeenHours n g before t A K) (hK : E ≤ K) : Seen n E g before t (A + 1) := by
  intro a b k h1 h2 h3 h4 h5
  by_cases e : a = A
  · subst e; exact hh b k h2 h3 (by omega) h5
  · exact h a b k (by omega) h2 h3 h4 h5
theorem SeenHours.next {n a K B : Nat} {g : Nat → Nat → Nat → Bool} {before t : Nat → Nat} (h : SeenHours n g before t a K) (hh : SeenTo g t a K B) (hB : n ≤ B) : SeenHours n g before t a (K + 1) := by
  intro b k h1 h2 h3 h4
  by_cases e : k = K
  · subst e; exact hh b (by omega) h4
  · exact h b k h1 h2 (by omega) h4

/-- A pass that turns nothing has come to the table. -/
theorem Inv.done {n E src start : Nat} {g : Nat → Nat → Nat → Bool} {before t : Nat → Nat} (h : Inv n E g src start t) (hs : Seen n E g before t n)
    (he : ∀ x, x < n → before x = t x) : IsTable n E g src start t :=
  ⟨h.init, fun a b k ha hb hak hk hg => hs a b k ha hb (by rw [he a ha]; exact hak) hk hg, h.supp, fun b _ => h.hi b⟩

/-- The measure of the search. -/
def total (t : Nat → Nat) : Nat := t 0 + t 1 + t 2 + t 3 + t 4 + t 5
theorem total_lt {t t' : Nat → Nat} (hd : ∀ x, t' x ≤ t x) (hne : ¬ ∀ x, x < 6 → t x = t' x) : total t' < total t := by
  have h0 := hd 0; have h1 := hd 1; have h2 := hd 2; have h3 := hd 3; have h4 := hd 4; have h5 := hd 5
  unfold total
  by_cases hh : t 0 = t' 0 ∧ t 1 = t' 1 ∧ t 2 = t' 2 ∧ t 3 = t' 3 ∧ t 4 = t' 4 ∧ t 5 = t' 5
  · exfalso; apply hne; intro x hx
    obtain ⟨a, b, c, d, e, f⟩ := hh
    have : x = 0 ∨ x = 1 ∨ x = 2 ∨ x = 3 ∨ x = 4 ∨ x = 5 := by omega
    rcases this with rfl | rfl | rfl | rfl | rfl | rfl <;> assumption
  · omega

/-- The reference: before the hour h. -/
structure RInv (n E : Nat) (g : Nat → Nat → Nat → Bool) (src start h : Nat) (t : Nat → Nat) : Prop where
  init : t src = start
  supp : Supported n E g src t
  vals : ∀ b, b < n → t b = E + 1 ∨ t b ≤ h
  closed : Closed n h g t
/-- .. within the hour h, the pairs before (A, B) seen to. -/
structure RIn (n E : Nat) (g : Nat → Nat → Nat → Bool) (src start h A B : Nat) (t : Nat → Nat) : Prop where
  init : t src = start
  supp : Supported n E g src t
  vals : ∀ b, b < n → t b = E + 1 ∨ t b ≤ h + 1
  closed : Closed n h g t
  rows : ∀ a b, a < A → b < n → t a ≤ h → g a b h = true → t b ≤ h + 1
  row : ∀ b, b < B → t A ≤ h → g A b h = true → t b ≤ h + 1

theorem RInv.enter {n E src start h : Nat} {g : Nat → Nat → Nat → Bool} {t : Nat → Nat} (r : RInv n E g src start h t) : RIn n E g src start h 0 0 t :=
  ⟨r.init, r.supp, fun b hb => (r.vals b hb).imp id (fun x => by omega), r.closed, fun a b ha => by omega, fun b hb => by omega⟩
theorem RIn.line {n E src start h A : Nat} {g : Nat → Nat → Nat → Bool} {t : Nat → Nat} (r : RIn n E g src start h A n t) : RIn n E g src start h (A + 1) 0 t :=
  ⟨r.init, r.supp, r.vals, r.closed, fun a b ha hb h1 h2 => by
    by_cases e : a = A
    · subst e; exact r.row b hb h1 h2
    · exact r.rows a b (by omega) hb h1 h2, fun b hb => by omega⟩
theorem RIn.leave {n E src start h : Nat} {g : Nat → Nat → Nat → Bool} {t : Nat → Nat} (r : RIn n E g src start h n 0 t) : RInv n E g src start (h + 1) t :=
  ⟨r.init, r.supp, r.vals, fun a b k ha hb h1 h2 h3 => by
    by_cases e : k = h
    · subst e; exact r.rows a b ha hb h1 h3
    · exact r.closed a b k ha hb h1 (by omega) h3⟩
theorem RIn.keep {n E src start h A B : Nat} {g : Nat → Nat → Nat → Bool} {t : Nat → Nat} (r : RIn n E g src start h A B t) (hB : B < n)
    (hno : ¬ (t A ≤ h ∧ t B = E + 1 ∧ g A B h = true)) : RIn n E g src start h A (B + 1) t :=
  ⟨r.init, r.supp, r.vals, r.closed, r.rows, fun b hb h1 h2 => by
    by_cases e : b = B
    · subst e
      rcases r.vals b hB with q | q
      · exact absurd ⟨h1, q, h2⟩ hno
      · exact q
    · exact r.row b (by omega) h1 h2⟩
theorem RIn.set {n E src start h A B : Nat} {g : Nat → Nat → Nat → Bool} {t : Nat → Nat} (r : RIn n E g src start h A B t) (hA : A < n) (hB : B < n) (hE : h < E) (hs : start ≤ h)
    (h1 : t A ≤ h) (h2 : t B = E + 1) (h3 : g A B h = true) : RIn n E g src start h A (B + 1) (fun x => if x = B then h + 1 else t x) := by
  have hle : ∀ x k, k ≤ h → ((if x = B then h + 1 else t x) ≤ k ↔ t x ≤ k) := by
    intro x k hk
    by_cases e : x = B
    · subst e; simp; omega
    · simp [e]
  have hdn : ∀ x, (if x = B then h + 1 else t x) ≤ t x := by
    intro x
    by_cases e : x = B
    · subst e; simp; omega
    · simp [e]
  refine ⟨?_, ?_, ?_, ?_, ?_, ?_⟩
  · have := r.init
    by_cases e : src = B
    · subst e; omega
    · simp [e, r.init]
  · intro b hb hbE
    by_cases e : b = B
    · subst e
      exact .inr ⟨A, h, hA, (hle A h (Nat.le_refl _)).2 h1, hE, h3, by simp⟩
    · simp only [e, if_false] at hbE
      rcases r.supp b hb hbE with q | ⟨a, k, q1, q2, q3, q4, q5⟩
      · exact .inl q
      · exact .inr ⟨a, k, q1, Nat.le_trans (hdn a) q2, q3, q4, by simp [e]; exact q5⟩
  · intro b hb
    by_cases e : b = B
    · subst e; simp
    · simp only [e, if_false]; exact r.vals b hb
  · intro a b k ha hb q1 q2 q3
    exact Nat.le_trans (hdn b) (r.closed a b k ha hb ((hle a k (by omega)).1 q1) q2 q3)
  · intro a b ha hb q1 q2
    exact Nat.le_trans (hdn b) (r.rows a b ha hb ((hle a h (Nat.le_refl _)).1 q1) q2)
  · intro b hb q1 q2
    by_cases e : b = B
    · subst e; simp
    · exact Nat.le_trans (hdn b) (r.row b (by omega) h1 q2)
theorem RInv.begin {n E src start : Nat} {g : Nat → Nat → Nat → Bool} (hs : start ≤ E) : RInv n E g src start start (fun x => if x = src then start else E + 1) := by
  refine ⟨by simp, ?_, ?_, ?_⟩
  · intro b _ hE
    by_cases e : b = src
    · exact .inl e
    · exact absurd hE (by simp [e])
  · intro b _; by_cases e : b = src <;> simp [e]
  · intro a b k ha hb h1 h2 h3
    by_cases e : a = src
    · simp [e] at h1; omega
    · simp [e] at h1; omega
theorem RInv.table {n E src start : Nat} {g : Nat → Nat → Nat → Bool} {t : Nat → Nat} (r : RInv n E g src start E t) : IsTable n E g src start t :=
  ⟨r.init, r.closed, r.supp, fun b hb => by rcases r.vals b hb with h | h <;> omega⟩

end Go.Proofs.Ytdfohielnfdmkaa

/- Walks: package relay: the earliest hours of all stations in a case. -/
set_option linter.unusedVariables false
set_option linter.unusedSimpArgs false
namespace Go.Proofs.Ytdfohielnfdmkaa
open Go.RowKit
attribute [local go_sem low] cell_alloc_ite frozen_alloc_ite ov_cell ov_frozen cell_alloc_map frozen_alloc_map
attribute [local go_sem] Oper.semAt_some

/-- Whether a flash counts where one station is left out. -/
def gN (L : Lnd) (k : Nat) (out : Int) (a b h : Nat) : Bool := canN L a b k h && ((a : Int) != out) && ((b : Int) != out)
/-- What 'earliest' gives. -/
def EarlMade (L : Lnd) (rs : Nat → Nat) (k : Nat) (out : Int) (src start : Nat) (w : World) (e : Ending) (w' : World) : Prop :=
  ∃ T : Nat → Nat, e = .returned (.agg #[.int .i64 (T 0), .int .i64 (T 1), .int .i64 (T 2), .int .i64 (T 3), .int .i64 (T 4), .int .i64 (T 5)]) ∧ IsTable L.st.length L.su.length (gN L k out) src start T ∧ KeepM (MS L rs) w w' ∧ RM w' L rs

/-- Six ints in a block of one's own. -/
structure Six (w : World) (b : Nat) (T : Nat → Nat) : Prop where
  c : ∀ j, j < 6 → w.cell? ⟨b, j, none⟩ = some (.int .i64 (T j))
  f : ∀ j, j < 6 → w.frozen? ⟨b, j, none⟩ = false
theorem Six.lt {w : World} {b : Nat} {T : Nat → Nat} (h : Six w b T) : b < w.heap.size := cell_lt (h.c 0 (by omega))
theorem Six.below {w w' : World} {b : Nat} {T : Nat → Nat} (h : Six w b T) (hb : Below w.heap.size w w') : Six w' b T :=
  ⟨fun j hj => kept_of_below hb _ _ (h.c j hj), fun j hj => (hb.frozen (p := ⟨b, j, none⟩) h.lt).trans (h.f j hj)⟩
theorem Six.keep {S : Nat → Prop} {w w' : World} {b : Nat} {T : Nat → Nat} (h : Six w b T) (hb : KeepM S w w') : Six w' b T :=
  ⟨fun j hj => hb.kept _ _ (h.c j hj), fun j hj => (hb.frozens b j).trans ((if_pos h.lt).trans (h.f j hj))⟩
theorem Six.set {w : World} {b : Nat} {T : Nat → Nat} (h : Six w b T) (i : Nat) (v : Nat) : Six (w.setCell ⟨b, i, none⟩ (.int .i64 v)) b (fun x => if x = i then v else T x) := by
  refine ⟨fun j hj => ?_, fun j hj => by rw [World.frozen?_setCell]; exact h.f j hj⟩
  by_cases e : j = i
  · subst e; simp only [if_true]; exact cell_set (h.c j hj) _
  · simp only [e, if_false]; exact (World.cell?_setCell_other _ _ _ _ (by intro e'; cases e'; exact e rfl)).trans (h.c j hj)
theorem Six.other {w : World} {b : Nat} {T : Nat → Nat} (h : Six w b T) {a : Addr} (ha : a.block ≠ b) (v : Value) : Six (w.setCell a v) b T :=
  ⟨fun j hj => (World.cell?_setCell_other _ _ _ _ (by intro e; rw [e] at ha; exact ha rfl)).trans (h.c j hj), fun j hj => by rw [World.frozen?_setCell]; exact h.f j hj⟩

theorem Six.congr {w : World} {b : Nat} {T T' : Nat → Nat} (h : Six w b T) (e : ∀ j, j < 6 → T j = T' j) : Six w b T' := ⟨fun j hj => by rw [← e j hj]; exact h.c j hj, h.f⟩
theorem six_new (w : World) (t : TypeId) : Six (w.alloc (.cells #[.int .i64 0, .int .i64 0, .int .i64 0, .int .i64 0, .int .i64 0, .int .i64 0] t)) w.heap.size (fun _ => 0) := by
  refine ⟨fun j hj => ?_, fun j hj => World.frozen?_alloc_at (w := w) _ _ _ _ rfl⟩
  rw [World.cell?_alloc_at (w := w) _ _ _ _ rfl]
  match j, hj with
  | 0, _ => rfl
  | 1, _ => rfl
  | 2, _ => rfl
  | 3, _ => rfl
  | 4, _ => rfl
  | 5, _ => rfl
theorem six_alloc (w : World) (t : TypeId) (T : Nat → Nat) : Six (w.alloc (.cells #[.int .i64 (T 0), .int .i64 (T 1), .int .i64 (T 2), .int .i64 (T 3), .int .i64 (T 4), .int .i64 (T 5)] t)) w.heap.size T := by
  refine ⟨fun j hj => ?_, fun j hj => World.frozen?_alloc_at (w := w) _ _ _ _ rfl⟩
  rw [World.cell?_alloc_at (w := w) _ _ _ _ rfl]
  match j, hj with
  | 0, _ => rfl
  | 1, _ => rfl
  | 2, _ => rfl
  | 3, _ => rfl
  | 4, _ => rfl
  | 5, _ => rfl
/-- The world of 'earliest': its boxes from B on. -/
structure EW (w : World) (L : Lnd) (rs : Nat → Nat) (out : Int) (T : Nat → Nat) (wr : World) : Prop where
  km : KeepM (MS L rs) w wr
  rm : RM wr L rs
  ob : wr.cell? ⟨w.heap.size, 0, none⟩ = some (.int .i64 out)
  re : ∃ T0, Six wr (w.heap.size + 1) T0
  h : Six wr (w.heap.size + 1 + 1) T
theorem EW.below {w wr wr' : World} {L : Lnd} {rs : Nat → Nat} {out : Int} {T : Nat → Nat} (h : EW w L rs out T wr) (hb : Below wr.heap.size wr wr') : EW w L rs out T wr' :=
  ⟨h.km.trans (.of_below h.rm.maps hb), h.rm.below hb, kept_of_below hb _ _ h.ob, h.re.imp fun _ q => q.below hb, h.h.below hb⟩
theorem EW.keep {w wr wr' : World} {L : Lnd} {rs : Nat → Nat} {out : Int} {T : Nat → Nat} (h : EW w L rs out T wr) (hb : KeepM (MS L rs) wr wr') (hm : RM wr' L rs) : EW w L rs out T wr' :=
  ⟨h.km.trans hb, hm, hb.kept _ _ h.ob, h.re.imp fun _ q => q.keep hb, h.h.keep hb⟩
theorem RM.trB {a b : World} {L : Lnd} {rs : Nat → Nat} (h : RM a L rs) {n : Nat} (hn : ∀ k, k < L.ca.length → rs k < n) (hb : Below n a b) : RM b L rs := fun k hk => (h k hk).mono (hb.block _ (hn k hk)) (fun _ _ _ q => q)
theorem MS.lt {L : Lnd} {rs : Nat → Nat} {w : World} (h : RM w L rs) (k : Nat) (hk : k < L.ca.length) : rs k < w.heap.size := h.maps.lt ⟨k, hk, rfl⟩
theorem EW.set {w wr : World} {L : Lnd} {rs : Nat → Nat} {out : Int} {T : Nat → Nat} (h : EW w L rs out T wr) (hm : RM w L rs) (i v : Nat) : EW w L rs out (fun x => if x = i then v else T x) (wr.setCell ⟨w.heap.size + 1 + 1, i, none⟩ (.int .i64 v)) := by
  have hb : Below w.heap.size wr (wr.setCell ⟨w.heap.size + 1 + 1, i, none⟩ (.int .i64 v)) := (Below.refl _ _).setCell (by simp only; omega) _
  exact ⟨h.km.trB hb, h.rm.trB (fun k hk => MS.lt hm k hk) hb, (World.cell?_setCell_other _ _ _ _ (by intro e; have := congrArg Addr.block e; simp only at this; omega)).trans h.ob,
    h.re.imp fun _ q => q.other (by simp only; omega) _, h.h.set i v⟩
theorem EW.other {w wr : World} {L : Lnd} {rs : Nat → Nat} {out : Int} {T : Nat → Nat} (h : EW w L rs out T wr) (hm : RM w L rs) {b o : Nat} (hb : w.heap.size + 1 + 1 < b) (v : Value) : EW w L rs out T (wr.setCell ⟨b, o, none⟩ v) := by
  have hB : Below w.heap.size wr (wr.setCell ⟨b, o, none⟩ v) := (Below.refl _ _).setCell (by simp only; omega) _
  exact ⟨h.km.trB hB, h.rm.trB (fun k hk => MS.lt hm k hk) hB, (World.cell?_setCell_other _ _ _ _ (by intro e; have := congrArg Addr.block e; simp only at this; omega)).trans h.ob,
    h.re.imp fun _ q => q.other (by simp only; omega) _, h.h.other (by simp only; omega) _⟩

theorem list_range (l : List Value) : ∀ n, l.length = n → l = (List.range n).map fun i => l.toArray.getD i undef := by
  intro n hn
  apply List.ext_getElem?
  intro i
  rw [List.getElem?_map]
  rcases Nat.lt_or_ge i n with h | h
  · rw [List.getElem?_eq_getElem (by omega), List.getElem?_eq_getElem (by simpa using h)]
    simp [Array.getD, show i < l.length by omega]
  · rw [List.getElem?_eq_none (by omega), List.getElem?_eq_none (by simpa using h)]
    rfl
theorem fr79 {t : Array Value} (h : t.size = 79) : t = (fun u : Nat → Value => (List.toArray (u 0 :: u 1 :: u 2 :: u 3 :: u 4 :: u 5 :: u 6 :: u 7 :: u 8 :: u 9 :: u 10 :: u 11 :: u 12 :: u 13 :: u 14 :: u 15 :: u 16 :: u 17 :: u 18 :: u 19 :: u 20 :: u 21 :: u 22 :: u 23 :: u 24 :: u 25 :: u 26 :: u 27 :: u 28 :: u 29 :: u 30 :: u 31 :: u 32 :: u 33 :: u 34 :: u 35 :: u 36 :: u 37 :: u 38 :: u 39 :: u 40 :: u 41 :: u 42 :: u 43 :: u 44 :: u 45 :: u 46 :: u 47 :: u 48 :: u 49 :: u 50 :: u 51 :: u 52 :: u 53 :: u 54 :: u 55 :: u 56 :: u 57 :: u 58 :: u 59 :: u 60 :: u 61 :: u 62 :: u 63 :: u 64 :: u 65 :: u 66 :: u 67 :: u 68 :: u 69 :: u 70 :: u 71 :: u 72 :: u 73 :: u 74 :: u 75 :: u 76 :: u 77 :: u 78 :: []))) (fun i => t.getD i undef) := by
  have := list_range t.toList 79 (by simpa using h)
  have e : t = t.toList.toArray := by simp
  rw [e, this]
  rfl
theorem eq_six (w : World) (a0 a1 a2 a3 a4 a5 b0 b1 b2 b3 b4 b5 : Int) : (Op.equalIn 10000 87 (.agg #[.int .i64 a0, .int .i64 a1, .int .i64 a2, .int .i64 a3, .int .i64 a4, .int .i64 a5]) (.agg #[.int .i64 b0, .int .i64 b1, .int .i64 b2, .int .i64 b3, .int .i64 b4, .int .i64 b5])).run Try.prog w =
    .ok (decide (a0 = b0) && decide (a1 = b1) && decide (a2 = b2) && decide (a3 = b3) && decide (a4 = b4) && decide (a5 = b5)) w := by
  rw [show (10000 : Nat) = 9999 + 1 from rfl, Op.equalIn]
  simp [go_sem, List.range'_succ]
  by_cases h0 : a0 = b0
  · by_cases h1 : a1 = b1
    · by_cases h2 : a2 = b2
      · by_cases h3 : a3 = b3
        · by_cases h4 : a4 = b4
          · by_cases h5 : a5 = b5 <;> simp [h0, h1, h2, h3, h4, h5]
          · simp [h0, h1, h2, h3, h4]
        · simp [h0, h1, h2, h3]
      · simp [h0, h1, h2]
    · simp [h0, h1]
  · simp [h0]
theorem eql_six (w : World) (a0 a1 a2 a3 a4 a5 b0 b1 b2 b3 b4 b5 : Int) : (binOp .eql 87 (.agg #[.int .i64 a0, .int .i64 a1, .int .i64 a2, .int .i64 a3, .int .i64 a4, .int .i64 a5]) (.agg #[.int .i64 b0, .int .i64 b1, .int .i64 b2, .int .i64 b3, .int .i64 b4, .int .i64 b5])).run Try.prog w =
    .ok (.bool (decide (a0 = b0) && decide (a1 = b1) && decide (a2 = b2) && decide (a3 = b3) && decide (a4 = b4) && decide (a5 = b5))) w := by
  rw [run_eql_struct, eq_six]; rfl
/-- A change above n that lets every cell be. -/
structure Calm (n : Nat) (W W' : World) : Prop where
  below : Below n W W'
  kept : Kept W W'
  froz : ∀ b o v, W.cell? ⟨b, o, none⟩ = some v → W'.frozen? ⟨b, o, none⟩ = W.frozen? ⟨b, o, none⟩
theorem calm_grown {n : Nat} {W W' : World} {row : Option Nat} (hg : W.grownBy W' row) (hn : n ≤ W.heap.size) (hr : ∀ r, row = some r → n ≤ r ∧ ∃ o : Obj, W.heap[r]? = some o ∧ o.isCells = false) : Calm n W W' :=
  ⟨(Below.refl n W).grown hg hn (fun k e => (hr k e).1), kept_grown hg (fun r e => (hr r e).2), fun b o v hv => frozen_kept hv hg (fun r e => (hr r e).2)⟩
theorem calm_below {W W' : World} (hb : Below W.heap.size W W') : Calm W.heap.size W W' := ⟨hb, kept_of_below hb, fun b o v hv => hb.frozen (p := ⟨b, o, none⟩) (cell_lt hv)⟩
theorem Calm.mono {n m : Nat} {W W' : World} (h : Calm n W W') (hm : m ≤ n) : Calm m W W' := ⟨h.below.mono hm, h.kept, h.froz⟩
theorem Shut.calm {B : Nat} {W W' : World} (h : Shut B W W') : Calm B W W' := ⟨h.below, h.kept, fun b o v hv => h.froz b o (by rw [hv]; rfl)⟩
theorem Six.calm {n : Nat} {w w' : World} {b : Nat} {T : Nat → Nat} (h : Six w b T) (hc : Calm n w w') : Six w' b T :=
  ⟨fun j hj => hc.kept _ _ (h.c j hj), fun j hj => (hc.froz _ _ _ (h.c j hj)).trans (h.f j hj)⟩
theorem EW.calm {n : Nat} {w wr wr' : World} {L : Lnd} {rs : Nat → Nat} {out : Int} {T : Nat → Nat} (h : EW w L rs out T wr) (hm : RM w L rs) (hc : Calm n wr wr') (hn : w.heap.size ≤ n) : EW w L rs out T wr' := by
  have hb := hc.below.mono hn
  exact ⟨h.km.trB hb, h.rm.trB (fun k hk => MS.lt hm k hk) hb, hc.kept _ _ h.ob, h.re.imp fun _ q => q.calm hc, h.h.calm hc⟩

/-- The search: T so far. -/
def E2I (p : Nat) (L : Lnd) (rs : Nat → Nat) (src start k : Nat) (out : Int) (w : World) (gk : Nat) (a : Act) (wr : World) : Prop :=
  ∃ (T : Nat → Nat) (Dl : List Nat) (u : Nat → Value), total T ≤ gk ∧ EW w L rs out T wr ∧ Inv L.st.length L.su.length (gN L k out) src start T ∧ MksOk w.heap.size Dl wr ∧
    a = { tmps := (List.toArray (.pointer (some ⟨p, 0, none⟩) :: .int .i64 src :: .int .i64 start :: .int .i64 k :: .int .i64 out :: u 5 :: u 6 :: u 7 :: u 8 :: .pointer (some ⟨w.heap.size, 0, none⟩) :: .pointer (some ⟨w.heap.size + 1, 0, none⟩) :: .pointer (some ⟨w.heap.size + 1 + 1, 0, none⟩) :: u 12 :: u 13 :: u 14 :: u 15 :: u 16 :: u 17 :: u 18 :: u 19 :: u 20 :: u 21 :: u 22 :: u 23 :: u 24 :: u 25 :: u 26 :: u 27 :: u 28 :: u 29 :: u 30 :: u 31 :: u 32 :: u 33 :: u 34 :: u 35 :: u 36 :: u 37 :: u 38 :: u 39 :: u 40 :: u 41 :: u 42 :: u 43 :: u 44 :: u 45 :: u 46 :: u 47 :: u 48 :: u 49 :: u 50 :: u 51 :: u 52 :: u 53 :: u 54 :: u 55 :: u 56 :: u 57 :: u 58 :: u 59 :: u 60 :: u 61 :: u 62 :: u 63 :: u 64 :: u 65 :: u 66 :: u 67 :: u 68 :: u 69 :: u 70 :: u 71 :: u 72 :: u 73 :: u 74 :: u 75 :: u 76 :: u 77 :: u 78 :: [])), defers := mks Dl }
/-- A pass over the stations: those before A seen to; T0 at its begin. -/
def E3I (p : Nat) (L : Lnd) (rs : Nat → Nat) (src start k : Nat) (out : Int) (w : World) (bb : Nat) (T0 : Nat → Nat) (gk : Nat) (a : Act) (wr : World) : Prop :=
  ∃ (A : Nat) (T : Nat → Nat) (Dl : List Nat) (u : Nat → Value), A ≤ L.st.length ∧ L.st.length - A ≤ gk ∧ EW w L rs out T wr ∧ Six wr bb T0 ∧ Inv L.st.length L.su.length (gN L k out) src start T ∧ (∀ x, T x ≤ T0 x) ∧
    Seen L.st.length L.su.length (gN L k out) T0 T A ∧ MksOk w.heap.size Dl wr ∧ a = { tmps := (List.toArray (.pointer (some ⟨p, 0, none⟩) :: .int .i64 src :: .int .i64 start :: .int .i64 k :: .int .i64 out :: u 5 :: u 6 :: u 7 :: u 8 :: .pointer (some ⟨w.heap.size, 0, none⟩) :: .pointer (some ⟨w.heap.size + 1, 0, none⟩) :: .pointer (some ⟨w.heap.size + 1 + 1, 0, none⟩) :: u 12 :: .pointer (some ⟨bb, 0, none⟩) :: u 14 :: u 15 :: u 16 :: u 17 :: u 18 :: u 19 :: u 20 :: u 21 :: u 22 :: u 23 :: u 24 :: u 25 :: u 26 :: u 27 :: u 28 :: u 29 :: u 30 :: u 31 :: u 32 :: u 33 :: u 34 :: .int .i64 L.st.length :: .int .i64 A :: u 37 :: u 38 :: u 39 :: u 40 :: u 41 :: u 42 :: u 43 :: u 44 :: u 45 :: u 46 :: u 47 :: u 48 :: u 49 :: u 50 :: u 51 :: u 52 :: u 53 :: u 54 :: u 55 :: u 56 :: u 57 :: u 58 :: u 59 :: u 60 :: u 61 :: u 62 :: u 63 :: u 64 :: u 65 :: u 66 :: u 67 :: u 68 :: u 69 :: u 70 :: u 71 :: u 72 :: u 73 :: u 74 :: u 75 :: u 76 :: u 77 :: u 78 :: [])), defers := mks Dl }
/-- .. at station A the hours before hr seen to. -/
def E4I (p : Nat) (L : Lnd) (rs : Nat → Nat) (src start k : Nat) (out : Int) (w : World) (bb : Nat) (T0 : Nat → Nat) (A : Nat) (gk : Nat) (a : Act) (wr : World) : Prop :=
  ∃ (hr bx : Nat) (T : Nat → Nat) (Dl : List Nat) (u : Nat → Value), L.su.length + 1 - hr ≤ gk ∧ hr ≤ L.su.length + 1 ∧ EW w L rs out T wr ∧ Six wr bb T0 ∧ Inv L.st.length L.su.length (gN L k out) src start T ∧ (∀ x, T x ≤ T0 x) ∧
    Seen L.st.length L.su.length (gN L k out) T0 T A ∧ SeenHours L.st.length (gN L k out) T0 T A hr ∧ T A ≤ hr ∧ wr.cell? ⟨bx, 0, none⟩ = some (.int .i64 hr) ∧ wr.frozen? ⟨bx, 0, none⟩ = false ∧ w.heap.size + 1 + 1 < bx ∧ bx ≠ bb ∧
    MksOk w.heap.size Dl wr ∧ a = { tmps := (List.toArray (.pointer (some ⟨p, 0, none⟩) :: .int .i64 src :: .int .i64 start :: .int .i64 k :: .int .i64 out :: u 5 :: u 6 :: u 7 :: u 8 :: .pointer (some ⟨w.heap.size, 0, none⟩) :: .pointer (some ⟨w.heap.size + 1, 0, none⟩) :: .pointer (some ⟨w.heap.size + 1 + 1, 0, none⟩) :: u 12 :: .pointer (some ⟨bb, 0, none⟩) :: .int .i64 A :: .pointer (some ⟨bx, 0, none⟩) :: u 16 :: u 17 :: u 18 :: u 19 :: u 20 :: u 21 :: u 22 :: u 23 :: u 24 :: u 25 :: u 26 :: u 27 :: u 28 :: u 29 :: u 30 :: u 31 :: u 32 :: u 33 :: u 34 :: .int .i64 L.st.length :: .int .i64 A :: u 37 :: u 38 :: u 39 :: u 40 :: u 41 :: u 42 :: u 43 :: u 44 :: u 45 :: u 46 :: u 47 :: u 48 :: u 49 :: u 50 :: u 51 :: u 52 :: u 53 :: u 54 :: u 55 :: u 56 :: u 57 :: u 58 :: u 59 :: u 60 :: u 61 :: u 62 :: u 63 :: u 64 :: u 65 :: u 66 :: u 67 :: u 68 :: u 69 :: u 70 :: u 71 :: u 72 :: u 73 :: u 74 :: u 75 :: u 76 :: u 77 :: u 78 :: [])), defers := mks Dl }

theorem E2I.mk {p : Nat} {L : Lnd} {rs : Nat → Nat} {src start k : Nat} {out : Int} {w : World} {gk : Nat} {t : Array Value} {wr : World} (T : Nat → Nat) (Dl : List Nat) (hs : t.size = 79) (h0 : t.getD 0 undef = .pointer (some ⟨p, 0, none⟩)) (h1 : t.getD 1 undef = .int .i64 src) (h2 : t.getD 2 undef = .int .i64 start) (h3 : t.getD 3 undef = .int .i64 k) (h4 : t.getD 4 undef = .int .i64 out) (h9 : t.getD 9 undef = .pointer (some ⟨w.heap.size, 0, none⟩)) (h10 : t.getD 10 undef = .pointer (some ⟨w.heap.size + 1, 0, none⟩)) (h11 : t.getD 11 undef = .pointer (some ⟨w.heap.size + 1 + 1, 0, none⟩))
    (q1 : total T ≤ gk) (q2 : EW w L rs out T wr) (q3 : Inv L.st.length L.su.length (gN L k out) src start T) (q4 : MksOk w.heap.size Dl wr) : E2I p L rs src start k out w gk { tmps := t, defers := mks Dl } wr :=
  ⟨T, Dl, fun i => t.getD i undef, q1, q2, q3, q4, congrArg (fun x => Act.mk x (mks Dl)) ((fr79 hs).trans (by dsimp only; rw [h0, h1, h2, h3, h4, h9, h10, h11]))⟩
theorem E3I.mk {p : Nat} {L : Lnd} {rs : Nat → Nat} {src start k : Nat} {out : Int} {w : World} {bb : Nat} {T0 : Nat → Nat} {gk : Nat} {t : Array Value} {wr : World} (A : Nat) (T : Nat → Nat) (Dl : List Nat) (hs : t.size = 79) (h0 : t.getD 0 undef = .pointer (some ⟨p, 0, none⟩)) (h1 : t.getD 1 undef = .int .i64 src) (h2 : t.getD 2 undef = .int .i64 start) (h3 : t.getD 3 undef = .int .i64 k) (h4 : t.getD 4 undef = .int .i64 out) (h9 : t.getD 9 undef = .pointer (some ⟨w.heap.size, 0, none⟩)) (h10 : t.getD 10 undef = .pointer (some ⟨w.heap.size + 1, 0, none⟩)) (h11 : t.getD 11 undef = .pointer (some ⟨w.heap.size + 1 + 1, 0, none⟩)) (h13 : t.getD 13 undef = .pointer (some ⟨bb, 0, none⟩)) (h35 : t.getD 35 undef = .int .i64 L.st.length) (h36 : t.getD 36 undef = .int .i64 A)
    (q1 : A ≤ L.st.length) (q2 : L.st.length - A ≤ gk) (q3 : EW w L rs out T wr) (q4 : Six wr bb T0) (q5 : Inv L.st.length L.su.length (gN L k out) src start T) (q6 : ∀ x, T x ≤ T0 x)
    (q7 : Seen L.st.length L.su.length (gN L k out) T0 T A) (q8 : MksOk w.heap.size Dl wr) : E3I p L rs src start k out w bb T0 gk { tmps := t, defers := mks Dl } wr :=
  ⟨A, T, Dl, fun i => t.getD i undef, q1, q2, q3, q4, q5, q6, q7, q8, congrArg (fun x => Act.mk x (mks Dl)) ((fr79 hs).trans (by dsimp only; rw [h0, h1, h2, h3, h4, h9, h10, h11, h13, h35, h36]))⟩
theorem E4I.mk {p : Nat} {L : Lnd} {rs : Nat → Nat} {src start k : Nat} {out : Int} {w : World} {bb : Nat} {T0 : Nat → Nat} {A gk : Nat} {t : Array Value} {wr : World} (hr bx : Nat) (T : Nat → Nat) (Dl : List Nat) (hs : t.size = 79) (h0 : t.getD 0 undef = .pointer (some ⟨p, 0, none⟩)) (h1 : t.getD 1 undef = .int .i64 src) (h2 : t.getD 2 undef = .int .i64 start) (h3 : t.getD 3 undef = .int .i64 k) (h4 : t.getD 4 undef = .int .i64 out) (h9 : t.getD 9 undef = .pointer (some ⟨w.heap.size, 0, none⟩)) (h10 : t.getD 10 undef = .pointer (some ⟨w.heap.size + 1, 0, none⟩)) (h11 : t.getD 11 undef = .pointer (some ⟨w.heap.size + 1 + 1, 0, none⟩)) (h13 : t.getD 13 undef = .pointer (some ⟨bb, 0, none⟩)) (h14 : t.getD 14 undef = .int .i64 A) (h15 : t.getD 15 undef = .pointer (some ⟨bx, 0, none⟩)) (h35 : t.getD 35 undef = .int .i64 L.st.length) (h36 : t.getD 36 undef = .int .i64 A)
    (q1 : L.su.length + 1 - hr ≤ gk) (q2 : hr ≤ L.su.length + 1) (q3 : EW w L rs out T wr) (q4 : Six wr bb T0) (q5 : Inv L.st.length L.su.length (gN L k out) src start T) (q6 : ∀ x, T x ≤ T0 x)
    (q7 : Seen L.st.length L.su.length (gN L k out) T0 T A) (q8 : SeenHours L.st.length (gN L k out) T0 T A hr) (q9 : T A ≤ hr) (q10 : wr.cell? ⟨bx, 0, none⟩ = some (.int .i64 hr)) (q11 : wr.frozen? ⟨bx, 0, none⟩ = false) (q12 : w.heap.size + 1 + 1 < bx) (q13 : bx ≠ bb)
    (q14 : MksOk w.heap.size Dl wr) : E4I p L rs src start k out w bb T0 A gk { tmps := t, defers := mks Dl } wr :=
  ⟨hr, bx, T, Dl, fun i => t.getD i undef, q1, q2, q3, q4, q5, q6, q7, q8, q9, q10, q11, q12, q13, q14, congrArg (fun x => Act.mk x (mks Dl)) ((fr79 hs).trans (by dsimp only; rw [h0, h1, h2, h3, h4, h9, h10, h11, h13, h14, h15, h35, h36]))⟩

theorem MksOk.calm {B n : Nat} {Dl : List Nat} {w w' : World} (h : MksOk B Dl w) (hc : Calm n w w') (hn : ∀ D, D ∈ Dl → D < n) : MksOk B Dl w' :=
  ⟨h.nodup, h.ge, fun D hD => (hc.below.block D (hn D hD)).trans (h.op D hD)⟩
theorem bit_can {L : Lnd} {A k h x : Nat} (hx : (flN L A k h).testBit x = true) : x < L.st.length ∧ canN L A x k h = true := by
  unfold flN at hx
  rw [flOf_bit _ (fun x hx => (rcTo_mem hx).1)] at hx
  have := List.contains_iff_mem.1 hx
  unfold rcTo at this
  obtain ⟨j, hj, e⟩ := List.mem_map.1 this
  obtain rfl : j = x := by omega
  have := List.mem_filter.1 hj
  exact ⟨List.mem_range.1 this.1, this.2⟩
theorem can_bit {L : Lnd} {A k h x : Nat} (hx : x < L.st.length) (hc : canN L A x k h = true) : (flN L A k h).testBit x = true := by
  unfold flN
  rw [flOf_bit _ (fun x hx => (rcTo_mem hx).1)]
  refine List.contains_iff_mem.2 ?_
  unfold rcTo
  exact List.mem_map.2 ⟨x, List.mem_filter.2 ⟨List.mem_range.2 hx, hc⟩, rfl⟩
theorem fl_lt {L : Lnd} {A k h : Nat} (h1 : L.st.length ≤ 6) : flN L A k h < 64 := flOf_lt _ (fun x hx => by have := rcTo_mem hx; omega)
theorem minI_nat (a b : Nat) : minI (a : Int) (b : Int) = ((min a b : Nat) : Int) := by
  unfold minI
  split <;> omega
/-- Within a range over a set: the stations pre have come. -/
def RgI (w wl : World) (L : Lnd) (rs : Nat → Nat) (src start k : Nat) (out : Int) (bb : Nat) (T0 T : Nat → Nat) (hr bx : Nat) (Dl : List Nat) (fl : Nat) (pre : List (BitOf fl)) (W : World) : Prop :=
  wl.heap.size ≤ W.heap.size ∧ (∃ T' : Nat → Nat, EW w L rs out T' W ∧ Inv L.st.length L.su.length (gN L k out) src start T' ∧ (∀ x, T' x ≤ T x) ∧ ∀ y, y ∈ pre → (((y.1 : Nat) : Int) != out) = true → T' y.1 ≤ hr + 1) ∧
    Six W bb T0 ∧ W.cell? ⟨bx, 0, none⟩ = some (.int .i64 hr) ∧ W.frozen? ⟨bx, 0, none⟩ = false ∧ MksOk w.heap.size Dl W

set_option maxRecDepth 100000 in
set_option maxHeartbeats 8000000 in
theorem earliest_any (p kb kc : Nat) (V : LV) (L : Lnd) (rs : Nat → Nat) (src start k : Nat) (out : Int) (w : World) (hw : RW w p kb kc V L rs) (hm : RM w L rs) (ok : Okay L) (ls : src < L.st.length) (le : start ≤ L.su.length) (lk : k < L.ca.length) :
    Calls Try.prog 32 #[.pointer (some ⟨p, 0, none⟩), .int .i64 src, .int .i64 start, .int .i64 k, .int .i64 out] w (EarlMade L rs k out src start w) := by
  have H := Lib.hid hw
  have HM := Lib.hid hm
  have OK := Lib.hid ok
  have HE := Lib.hid (fun W (hW : Below w.heap.size w W) => end_any p V L W (hw.cells.kept (kept_of_below hW)) hw.rd.l3)
  have hu1 := ok.u1
  have hs1 := ok.s1
  have hlp := cell_lt hw.known
  simp only at hlp
  clear hw hm ok
  (refine (callsIn_wide (n := 9)).1 ?_; refine callsIn_of_wp_marks Try.func32 rfl trivial (wpIn_wide.2 ?_) rfl; simp only [Try.ntmps32, List.size_toArray, List.length_cons, List.length_nil, Nat.reduceAdd, Nat.reduceSub, Array.replicate_succ, Array.replicate_zero, List.push_toArray, List.append_toArray, List.nil_append, List.cons_append])
  go_wp2
  have hB0 : Below w.heap.size w (((w.alloc (.cells #[.int .i64 out] 3)).alloc (.cells #[.int .i64 0, .int .i64 0, .int .i64 0, .int .i64 0, .int .i64 0, .int .i64 0] 87)).alloc (.cells #[.int .i64 0, .int .i64 0, .int .i64 0, .int .i64 0, .int .i64 0, .int .i64 0] 87)) := by (repeat (first | exact Below.refl _ _ | (with_reducible exact Hid.out (by assumption)) | refine below_al ?_ _ | refine below_dr ?_ | refine below_tr ?_ (by assumption) | refine below_tr ?_ (Bel.out (by assumption)) | refine below_tr ?_ (Bel.out (ov_bel _ _)) | refine below_set ?_ (by simp; try omega)))
  have hE0 : EW w L rs out (fun _ => 0) (((w.alloc (.cells #[.int .i64 out] 3)).alloc (.cells #[.int .i64 0, .int .i64 0, .int .i64 0, .int .i64 0, .int .i64 0, .int .i64 0] 87)).alloc (.cells #[.int .i64 0, .int .i64 0, .int .i64 0, .int .i64 0, .int .i64 0, .int .i64 0] 87)) := by
    refine ⟨.of_below HM.out.maps hB0, HM.out.below hB0, (by (try go_simp); (repeat (simp only [↓IntWalk.iteOmega]; (try go_simp))); (try omega)), ⟨_, by have := (six_new (w.alloc (.cells #[.int .i64 out] 3)) 87).below ((Below.refl _ _).alloc (Nat.le_refl _) (.cells #[.int .i64 0, .int .i64 0, .int .i64 0, .int .i64 0, .int .i64 0, .int .i64 0] 87)); simpa using this⟩, ?_⟩
    have := six_new ((w.alloc (.cells #[.int .i64 out] 3)).alloc (.cells #[.int .i64 0, .int .i64 0, .int .i64 0, .int .i64 0, .int .i64 0, .int .i64 0] 87)) 87
    simpa using this
  replace hE0 := Lib.hid hE0
  clear hB0
  go_loopw [17] (fun v wr => ∃ (j : Nat) (T : Nat → Nat), j ≤ 6 ∧ v = .int .i64 j ∧ EW w L rs out T wr ∧ ∀ x, x < j → T x = L.su.length + 1) (fun v _ => 6 - (intOf v).toNat)
  case atStart => exact ⟨0, _, by omega, rfl, hE0.out, fun x hx => by omega⟩
  case round =>
    obtain ⟨j, T, hj, rfl, hew, hT⟩ := hrel
    by_cases hlt : j < 6
    · have xj := hew.h.c j hlt
      have fj := hew.h.f j hlt
      have hst := Lib.hid (hew.set HM.out j (L.su.length + 1))
      replace hew := Lib.hid hew
      replace hT := Lib.hid hT
      go_wp2_with (go_at_call 31; refine (end_any p V L _ ((H.out.keep hew.out.km).cells) H.out.rd.l3).mono ?_; rintro e w' ⟨rfl, rfl⟩)
      go_roundw
      case rel => exact ⟨j + 1, _, by omega, by go_num, hst.out, fun x hx => by by_cases e : x = j; simp [e]; simp [e]; exact hT.out x (by omega)⟩
      case measure => simp [intOf]; omega
    · have hj6 : j = 6 := by omega
      subst hj6
      have xs := hew.h.c src (by omega)
      have fs := hew.h.f src (by omega)
      have hst : EW w L rs out (fun x => if x = src then start else L.su.length + 1) (wr.setCell ⟨w.heap.size + 1 + 1, src, none⟩ (.int .i64 start)) := by
        have h1 := hew.set HM.out src start
        exact ⟨h1.km, h1.rm, h1.ob, h1.re, h1.h.congr (fun x hx => by by_cases e : x = src; simp [e]; simp [e]; exact hT x hx)⟩
      have hinv : Inv L.st.length L.su.length (gN L k out) src start (fun x => if x = src then start else L.su.length + 1) := Inv.start le
      replace hst := Lib.hid hst
      replace hinv := Lib.hid hinv
      clear hew hT
      go_wp2
      clear xs fs
      generalize wr.setCell ⟨w.heap.size + 1 + 1, src, none⟩ (.int .i64 start) = W0 at *
      refine wp_loop_on (E2I p L rs src start k out w) (total fun x => if x = src then start else L.su.length + 1) (E2I.mk _ [] rfl rfl rfl rfl rfl rfl rfl rfl rfl (Nat.le_refl _) hst.out hinv.out (MksOk.nil _ _)) ?_
      clear hst hinv
      rintro gk a wr ⟨T, Dl, u, hgk, hew, hinv, hmk, rfl⟩ K hK
      have c0 := hew.h.c 0 (by omega)
      have c1 := hew.h.c 1 (by omega)
      have c2 := hew.h.c 2 (by omega)
      have c3 := hew.h.c 3 (by omega)
      have c4 := hew.h.c 4 (by omega)
      have c5 := hew.h.c 5 (by omega)
      have hp0 := (H.out.keep hew.km).cells 0 _ rfl
      have hsz := hew.km.size
      have hlh := hew.h.lt
      have HEW := Lib.hid hew
      replace hinv := Lib.hid hinv
      replace hmk := Lib.hid hmk
      clear hew
      go_wp2
      have hbW : Below wr.heap.size wr (wr.alloc (.cells #[.int .i64 (T 0), .int .i64 (T 1), .int .i64 (T 2), .int .i64 (T 3), .int .i64 (T 4), .int .i64 (T 5)] 87)) := by (repeat (first | exact Below.refl _ _ | (with_reducible exact Hid.out (by assumption)) | refine below_al ?_ _ | refine below_dr ?_ | refine below_tr ?_ (by assumption) | refine below_tr ?_ (Bel.out (by assumption)) | refine below_tr ?_ (Bel.out (ov_bel _ _)) | refine below_set ?_ (by simp; try omega)))
      refine wp_loop_on (E3I p L rs src start k out w wr.heap.size T) L.st.length (E3I.mk 0 T Dl rfl rfl rfl rfl rfl rfl rfl rfl rfl rfl rfl rfl (Nat.zero_le _) (Nat.le_refl _) (HEW.out.below hbW) (six_alloc _ _ _) hinv.out (fun _ => Nat.le_refl _) (fun a b k ha => by omega) (hmk.out.below hbW)) ?_
      have hbb : w.heap.size + 1 + 1 < wr.heap.size := hlh
      have hbT : Hid (∀ x, T x ≤ L.su.length + 1) := Lib.hid hinv.out.hi
      clear c0 c1 c2 c3 c4 c5 hp0 HEW hmk hinv hbW hlh hsz u
      generalize wr.heap.size = bb at *
      obtain ⟨T0, hT0⟩ : ∃ T0, T0 = T := ⟨_, rfl⟩
      subst hT0
      rintro ga a wr ⟨A, T, Dl, u, hA, hga, hew, hsix, hinv, hle, hseen, hmk, rfl⟩ K3 hK3
      have hlh := hew.h.lt
      have hlb := hsix.lt
      have hsz := hew.km.size
      by_cases hAn : A < L.st.length
      · have xA := hew.h.c A (by omega)
        have hTA : T A ≤ L.su.length + 1 := hinv.hi A
        have HEW := Lib.hid hew
        replace hsix := Lib.hid hsix
        replace hinv := Lib.hid hinv
        replace hmk := Lib.hid hmk
        replace hseen := Lib.hid hseen
        replace hle := Lib.hid hle
        clear hew
        go_wp2
        have hbW : Below wr.heap.size wr (wr.alloc (.cells #[.int .i64 (T A)] 3)) := by (repeat (first | exact Below.refl _ _ | (with_reducible exact Hid.out (by assumption)) | refine below_al ?_ _ | refine below_dr ?_ | refine below_tr ?_ (by assumption) | refine below_tr ?_ (Bel.out (by assumption)) | refine below_tr ?_ (Bel.out (ov_bel _ _)) | refine below_set ?_ (by simp; try omega)))
        refine wp_loop_on (E4I p L rs src start k out w bb T0 A) (L.su.length + 1 - T A) (E4I.mk (T A) wr.heap.size T Dl rfl rfl rfl rfl rfl rfl rfl rfl rfl rfl rfl rfl rfl rfl (Nat.le_refl _) hTA (HEW.out.below hbW) (hsix.out.below hbW) hinv.out hle.out hseen.out
          (fun b k hb h1 h2 => by have := hle.out A; omega) (Nat.le_refl _) (by (try go_simp); (repeat (simp only [↓IntWalk.iteOmega]; (try go_simp))); (try omega)) (by (try go_simp); (repeat (simp only [↓IntWalk.iteOmega]; (try go_simp))); (try omega)) (by omega) (by omega) (hmk.out.below hbW)) ?_
        clear hbW xA HEW hsix hinv hmk hseen hle hlh hlb hsz hTA
        clear u wr T Dl
        rintro gh a wr ⟨hr, bx, T, Dl, u, hgh, hhr, hew, hsix, hinv, hle, hseen, hsh, hTA, x15, f15, hbx, hbxb, hmk, rfl⟩ K4 hK4
        have HE2 := Lib.hid (fun W' (hW' : Below wr.heap.size wr W') => end_any p V L W' (((H.out.keep hew.km).cells).kept (kept_of_below hW')) H.out.rd.l3)
        have xo := hew.ob
        have hlx := cell_lt x15
        have hlo := cell_lt xo
        simp only at hlx hlo
        have HEW := Lib.hid hew
        replace hsix := Lib.hid hsix
        replace hinv := Lib.hid hinv
        replace hmk := Lib.hid hmk
        replace hseen := Lib.hid hseen
        replace hsh := Lib.hid hsh
        replace hle := Lib.hid hle
        clear hew
        by_cases hlt : hr < L.su.length
        · cases hao : ((A : Int) != out) with
          | true =>
            go_wp2
            (refine wp_region_ov (by kernel_rfl) (by kernel_rfl) (fun R hR => ?_); (repeat (go_big_quiet_step ((go_at_call 31; exact calls_ov_same (HE2.out _ (by (repeat (first | exact Below.refl _ _ | (with_reducible exact Hid.out (by assumption)) | refine below_al ?_ _ | refine below_dr ?_ | refine below_tr ?_ (by assumption) | refine below_tr ?_ (Bel.out (by assumption)) | refine below_tr ?_ (Bel.out (ov_bel _ _)) | refine below_set ?_ (by simp; try omega))))))))); refine wpQuiet_nil ?_; refine hR.out _ ?_; clear hR R; intro W hW; have hc := hW.cells; have hf := hW.frozens; have hz := hW.size; (try simp at hz))
            have y15 : W.cell? ⟨bx, 0, none⟩ = some (.int .i64 hr) := (by (try go_simp); (repeat (simp only [↓IntWalk.iteOmega]; (try go_simp))); (try omega))
            have g15 : W.frozen? ⟨bx, 0, none⟩ = false := (by (try go_simp); (repeat (simp only [↓IntWalk.iteOmega]; (try go_simp))); (try omega))
            have hB := hW.out
            have hEW2 := HEW.out.below hB
            have HF := Lib.hid (from_any p kb kc V L rs A k hr W (H.out.keep hEW2.km) hEW2.rm OK.out hAn lk hlt)
            replace hEW2 := Lib.hid hEW2
            replace hB := Lib.hid hB
            clear hc hf hz hW x15 f15 xo HE2 HEW
            go_wp2_with fail
            refine HF.out.mono ?_
            rintro e w5 ⟨rfl, hkm5, hrm5⟩
            have hEW5 := hEW2.out.keep hkm5 hrm5
            have hsix5 := (hsix.out.below hB.out).keep hkm5
            have z15 := hkm5.kept _ _ y15
            have zf15 : w5.frozen? ⟨bx, 0, none⟩ = false := (hkm5.frozens _ _).trans ((if_pos (cell_lt y15)).trans g15)
            have hmk5 := (hmk.out.below hB.out).keepM hkm5
            have hbl : Below w5.heap.size w5 (w5.alloc (.cells #[.int .u64 (flN L A k hr)] 108)) := by (repeat (first | exact Below.refl _ _ | (with_reducible exact Hid.out (by assumption)) | refine below_al ?_ _ | refine below_dr ?_ | refine below_tr ?_ (by assumption) | refine below_tr ?_ (Bel.out (by assumption)) | refine below_tr ?_ (Bel.out (ov_bel _ _)) | refine below_set ?_ (by simp; try omega)))
            have HI : Hid (RgI w (w5.alloc (.cells #[.int .u64 (flN L A k hr)] 108)) L rs src start k out bb T0 T hr bx Dl (flN L A k hr) [] (w5.alloc (.cells #[.int .u64 (flN L A k hr)] 108))) :=
              Lib.hid ⟨Nat.le_refl _, ⟨T, hEW5.below hbl, hinv.out, fun _ => Nat.le_refl _, fun y hy => by cases hy⟩, hsix5.below hbl, kept_of_below hbl _ _ z15, (hbl.frozen (p := ⟨bx, 0, none⟩) (cell_lt z15)).trans zf15, hmk5.below hbl⟩
            have hDl : ∀ D, D ∈ Dl → D < w5.heap.size := fun D hD => hmk5.lt hD
            have hbox : (w5.alloc (.cells #[.int .u64 (flN L A k hr)] 108)).cell? ⟨w5.heap.size, 0, none⟩ = some (.int .u64 (flN L A k hr)) := (by (try go_simp); (repeat (simp only [↓IntWalk.iteOmega]; (try go_simp))); (try omega))
            have hw5 : w.heap.size + 1 + 1 < w5.heap.size := hEW5.h.lt
            have hx5 : bx < w5.heap.size := cell_lt z15
            have hb5 := hsix5.lt
            have hfl := fl_lt (A := A) (k := k) (h := hr) hs1
            replace hDl := Lib.hid hDl
            replace hbox := Lib.hid hbox
            have HBC := Lib.hid (fun (x : Nat) (hx : (flN L A k hr).testBit x = true) => bit_can hx)
            have HCB := Lib.hid (fun (x : Nat) (h1 : x < L.st.length) (hx : canN L A x k hr = true) => can_bit h1 hx)
            clear hEW5 hsix5 z15 zf15 hmk5 hbl hkm5 hrm5 y15 g15 hEW2 hB HF hsix hmk
            generalize flN L A k hr = fl at *
            go_wp2_with (go_at_call 43; refine (each_any _ _).mono ?_; rintro e w6 ⟨rfl, rfl⟩)
            refine (wpIn_wide (n := 9)).1 ?_
            refine wpIn_rangeFunc_B rfl (by omega) (gf := 54) (lb := #[.pointer (some ⟨w5.heap.size, 0, none⟩)]) rfl trivial (enters_of Try.func54 (by kernel_rfl) rfl)
              (each_stops fl w5.heap.size _ hfl hbox.out 8) kpB_t (fun W l o o' _ h1 h2 _ => kpB_b W l o o' h1 h2) (fun W v hv => hv) (Below.refl _ _) (fun _ => rfl)
              (RgI w (w5.alloc (.cells #[.int .u64 fl] 108)) L rs src start k out bb T0 T hr bx Dl fl) (fun _ _ _ => False)
              (fun s X Y row hs hg hrow => by
                obtain ⟨i0, ⟨T', i1, i2, i3, i4⟩, i5, i6, i7, i8⟩ := hs
                have hcalm := calm_grown hg i0 hrow
                exact ⟨by have := hg.size; omega, ⟨T', i1.calm HM.out hcalm (by simp; omega), i2, i3, i4⟩, i5.calm hcalm, hcalm.kept _ _ i6, (hcalm.froz _ _ _ i6).trans i7, i8.calm hcalm (fun D hD => by have := hDl.out D hD; simp; omega)⟩)
              (fun _ _ _ _ _ hs _ _ => hs) HI.out ?round ?done (fun _ _ _ _ _ _ h _ => h.elim)
            case round =>
              intro l x W K hK
              gi_wp2
              rintro l pre W hl hrec ⟨i0, ⟨T', i1, i2, i3, i4⟩, i5, i6, i7, i8⟩ hlen
              clear hrec
              obtain ⟨b, hxb⟩ := x
              obtain ⟨hbn, hbc⟩ := HBC.out b hxb
              have xo := i1.ob
              have hlo := cell_lt xo
              have hbxW := cell_lt i6
              simp only at hlo hbxW
              dsimp only
              have hT'A := i3 A
              cases hbo : ((b : Int) != out) with
              | false =>
                have hfin : Hid (RgI w (w5.alloc (.cells #[.int .u64 fl] 108)) L rs src start k out bb T0 T hr bx Dl fl (pre ++ [⟨b, hxb⟩]) W) := Lib.hid ⟨i0, ⟨T', i1, i2, i3, fun y hy hyo => by
                  rcases List.mem_append.1 hy with h | h
                  · exact i4 y h hyo
                  · simp at h; subst h; simp only at hyo; rw [hbo] at hyo; cases hyo⟩, i5, i6, i7, i8⟩
                clear i0 i1 i2 i3 i4 i5 i6 i7 i8 hbc
                gi_wp2
                exact ⟨KeepsFrom.refl _ _, fun v hv => hv, hfin.out⟩
              | true =>
                have xb := i1.h.c b (by omega)
                have fb := i1.h.f b (by omega)
                have hlh := i1.h.lt
                have I1 := Lib.hid i1
                replace i2 := Lib.hid i2
                replace i3 := Lib.hid i3
                replace i4 := Lib.hid i4
                replace i5 := Lib.hid i5
                replace i8 := Lib.hid i8
                replace hbc := Lib.hid hbc
                clear i1
                gi_wp2
                refine wpIn_region_any (by kernel_rfl) ?_
                refine wpAnyIn_toRound (by kernel_rfl) _ _ _ _ ?_
                refine wpAnyIn_take (i := 0) (v := .int .i64 b) rfl rfl (by kernel_rfl) (by kernel_rfl) (by kernel_rfl) (fun _ _ _ h => h) ⟨Or.inl ⟨by rfl, fun w => by go_simp⟩, fun _ => rfl⟩ ?_
                go_simp
                obtain ⟨Wo, hWo⟩ : ∃ Wo : World, Wo = W := ⟨_, rfl⟩
                subst hWo
                (refine wpAnyIn_midQ 1 6 4 (fun _ => trivial) rfl (fun _ _ _ _ h => callsIn_wide.2 h) (by kernel_rfl) (by rfl) rfl (by omega) (by kernel_rfl) (by kernel_rfl) (by kernel_rfl) (by kernel_rfl) (fun R hR => ?_); simp only [List.take_succ_cons, List.take_zero, List.drop_succ_cons, List.drop_zero]; (repeat (go_big_quiet_step (fail))); refine wpQuiet_nil ?_; refine hR.out _ ?_; clear hR R; intro W hW kk; have hc := hW.cells; have hf := hW.frozens; have hz := hW.size; (try simp at hz))
                have xbW : W.cell? ⟨w.heap.size + 1 + 1, b, none⟩ = some (.int .i64 (T' b)) := (by (try go_simp); (repeat (simp only [↓IntWalk.iteOmega]; (try go_simp))); (try omega))
                have fbW : W.frozen? ⟨w.heap.size + 1 + 1, b, none⟩ = false := (by (try go_simp); (repeat (simp only [↓IntWalk.iteOmega]; (try go_simp))); (try omega))
                have hBel : Below Wo.heap.size Wo (W.alloc (.cells #[.int .i64 (T' b), .int .i64 ((hr : Int) + 1)] 3)) := by (repeat (first | exact Below.refl _ _ | (with_reducible exact Hid.out (by assumption)) | refine below_al ?_ _ | refine below_dr ?_ | refine below_tr ?_ (by assumption) | refine below_tr ?_ (Bel.out (by assumption)) | refine below_tr ?_ (Bel.out (ov_bel _ _)) | refine below_set ?_ (by simp; try omega)))
                have hfin : Hid (KeepsFrom (w5.alloc (.cells #[.int .u64 fl] 108)).heap.size Wo ((W.alloc (.cells #[.int .i64 (T' b), .int .i64 ((hr : Int) + 1)] 3)).setCell ⟨w.heap.size + 1 + 1, b, none⟩ (.int .i64 (minI (T' b) ((hr : Int) + 1)))) ∧
                    KpB w5.heap.size Wo ((W.alloc (.cells #[.int .i64 (T' b), .int .i64 ((hr : Int) + 1)] 3)).setCell ⟨w.heap.size + 1 + 1, b, none⟩ (.int .i64 (minI (T' b) ((hr : Int) + 1)))) ∧
                    RgI w (w5.alloc (.cells #[.int .u64 fl] 108)) L rs src start k out bb T0 T hr bx Dl fl (pre ++ [⟨b, hxb⟩]) ((W.alloc (.cells #[.int .i64 (T' b), .int .i64 ((hr : Int) + 1)] 3)).setCell ⟨w.heap.size + 1 + 1, b, none⟩ (.int .i64 (minI (T' b) ((hr : Int) + 1))))) := by
                  rw [show minI (T' b) ((hr : Int) + 1) = ((min (T' b) (hr + 1) : Nat) : Int) from minI_nat (T' b) (hr + 1)]
                  have hg : gN L k out A b hr = true := by unfold gN; rw [hbc.out, hao, hbo]; rfl
                  refine Lib.hid ⟨(⟨hBel.size, fun i o _ hi _ => (hBel.block i (Array.getElem?_eq_some_iff.1 hi).1).trans hi⟩ : KeepsFrom _ _ _).trans ((KeepsOthers.setCell _ _ _).from _),
                    fun v hv => (World.cell?_setCell_other _ _ _ _ (by intro e; have := congrArg Addr.block e; simp only at this; omega)).trans (kept_of_below hBel _ _ hv), ?_, ⟨low1 T' b (hr + 1), (I1.out.below hBel).set HM.out b _, i2.out.relax hAn hlt (by omega) hg, fun x => Nat.le_trans (low1_le _ _ _ _) (i3.out x), fun y hy hyo => ?_⟩,
                    (i5.out.below hBel).other (by simp only; omega) _, (World.cell?_setCell_other _ _ _ _ (by intro e; have := congrArg Addr.block e; simp only at this; omega)).trans (kept_of_below hBel _ _ i6), ?_, (i8.out.below hBel).set _ _⟩
                  · have := hBel.size
                    (try simp at i0)
                    simp at this ⊢
                    omega
                  · rcases List.mem_append.1 hy with h | h
                    · exact Nat.le_trans (low1_le _ _ _ _) (i4.out y h hyo)
                    · simp at h; subst h; exact low1_at _ _ _
                  · rw [World.frozen?_setCell]; exact (hBel.frozen (p := ⟨bx, 0, none⟩) hbxW).trans i7
                (refine wpAnyIn_wantW (i := 6) (by kernel_rfl) rfl (by kernel_rfl) (fun K hK => ?_); go_simp; (repeat (simp only [↓IntWalk.iteOmega]; (try go_simp))); (try go_bits); try (refine hK _ _ ?_; clear hK K))
                (refine wpAnyIn_wantW (i := 7) (by kernel_rfl) rfl (by kernel_rfl) (fun K hK => ?_); go_simp; (repeat (simp only [↓IntWalk.iteOmega]; (try go_simp))); (try go_bits); try (refine hK _ _ ?_; clear hK K))
                (refine ⟨trivial, callsIn_wide.2 (Calls.mono (small2_any W.heap.size 2 (T' b) ((hr : Int) + 1) _ (by (try go_simp); (repeat (simp only [↓IntWalk.iteOmega]; (try go_simp))); (try omega)) (by (try go_simp); (repeat (simp only [↓IntWalk.iteOmega]; (try go_simp))); (try omega)) (by omega)) ?_)⟩)
                rintro e w7 ⟨rfl, rfl⟩
                (dsimp only; refine hK _ _ ?_; clear hK K)
                have n1 : ¬ w.heap.size + 1 + 1 = W.heap.size := by omega
                clear hc hf hz hW hBel i2 i3 i4 i5 i6 i7 i8 I1 hbc
                (refine wpAnyIn_wantW (i := 8) (by kernel_rfl) rfl (by kernel_rfl) (fun K hK => ?_); go_simp; (repeat (simp only [↓IntWalk.iteOmega]; (try go_simp))); (try go_bits); try (refine hK _ _ ?_; clear hK K))
                (refine wpAnyIn_wantW (i := 9) (by kernel_rfl) rfl (by kernel_rfl) (fun K hK => ?_); go_simp; (repeat (simp only [↓IntWalk.iteOmega]; (try go_simp))); (try go_bits); try (refine hK _ _ ?_; clear hK K))
                (refine wpAnyIn_done (by kernel_rfl) ?_ _)
                gi_wp2
                exact hfin.out
            case done =>
              rintro D ys W hD hS ⟨i0, ⟨T', i1, i2, i3, i4⟩, i5, i6, i7, i8⟩ hK
              have hbW : Below W.heap.size W (W.alloc (.cells #[.int .i64 ((hr : Int) + 1)] 3)) := by (repeat (first | exact Below.refl _ _ | (with_reducible exact Hid.out (by assumption)) | refine below_al ?_ _ | refine below_dr ?_ | refine below_tr ?_ (by assumption) | refine below_tr ?_ (Bel.out (by assumption)) | refine below_tr ?_ (Bel.out (ov_bel _ _)) | refine below_set ?_ (by simp; try omega)))
              have hbx' := cell_lt i6
              have hlh' := i1.h.lt
              simp only at hbx'
              have hto : SeenTo (gN L k out) T' A hr L.st.length := fun b hb hg => by
                unfold gN at hg
                simp only [Bool.and_eq_true] at hg
                have hbit := HCB.out b hb hg.1.1
                have : b ∈ ys.map (·.1) := by
                  rw [hS]; unfold bitsTo
                  exact List.mem_filter.2 ⟨List.mem_range.2 (by omega), hbit⟩
                obtain ⟨y, hy, e⟩ := List.mem_map.1 this
                subst e
                exact i4 y hy hg.2
              have hlb' := i5.lt
              have f1 := Lib.hid (i1.below hbW)
              have f2 := Lib.hid (i5.below hbW)
              have f3 := Lib.hid i2
              have f4 : Hid (∀ x, T' x ≤ T0 x) := Lib.hid fun x => Nat.le_trans (i3 x) (hle.out x)
              have f5 := Lib.hid (hseen.out.down i3)
              have f6 := Lib.hid ((hsh.out.down i3).next hto (Nat.le_refl _))
              have f7 : T' A ≤ hr + 1 := by have := i3 A; omega
              have f8 : Hid (MksOk w.heap.size (D :: Dl) (W.alloc (.cells #[.int .i64 ((hr : Int) + 1)] 3))) :=
                Lib.hid ((i8.below hbW).cons (fun hd => by have := hDl.out D hd; simp at hD; omega) (by simp at hD; omega) ((hbW.block D (Array.getElem?_eq_some_iff.1 hK).1).trans hK))
              clear hto i1 i2 i3 i4 i5 i7 i8 hS hK hbW
              gi_wp2
              go_wp2
              refine ⟨L.su.length + 1 - (hr + 1), by omega, E4I.mk (hr + 1) W.heap.size T' (D :: Dl) rfl rfl rfl rfl rfl rfl rfl rfl rfl rfl rfl rfl rfl rfl (Nat.le_refl _) (by omega) f1.out f2.out f3.out f4.out f5.out f6.out f7 ?_ (by (try go_simp); (repeat (simp only [↓IntWalk.iteOmega]; (try go_simp))); (try omega)) (by omega) ?_ f8.out⟩
              · rw [World.cell?_alloc_at (w := W) _ _ _ _ rfl]; rfl
              · intro e
                omega
          | false =>
            have hne : SeenHours L.st.length (gN L k out) T0 T A L.su.length := fun b k' hb h1 h2 h3 => by unfold gN at h3; rw [hao] at h3; simp at h3
            go_wp2
            (refine wp_region_ov (by kernel_rfl) (by kernel_rfl) (fun R hR => ?_); (repeat (go_big_quiet_step ((go_at_call 31; exact calls_ov_same (HE2.out _ (by (repeat (first | exact Below.refl _ _ | (with_reducible exact Hid.out (by assumption)) | refine below_al ?_ _ | refine below_dr ?_ | refine below_tr ?_ (by assumption) | refine below_tr ?_ (Bel.out (by assumption)) | refine below_tr ?_ (Bel.out (ov_bel _ _)) | refine below_set ?_ (by simp; try omega))))))))); refine wpQuiet_nil ?_; refine hR.out _ ?_; clear hR R; intro W hW; have hc := hW.cells; have hf := hW.frozens; have hz := hW.size; (try simp at hz))
            have hB := Lib.hid hW.out
            clear hc hf hz hW
            go_wp2
            exact ⟨L.st.length - (A + 1), by omega, E3I.mk (A + 1) T Dl rfl rfl rfl rfl rfl rfl rfl rfl rfl rfl rfl rfl (by omega) (Nat.le_refl _) (HEW.out.below hB.out) (hsix.out.below hB.out) hinv.out hle.out (hseen.out.next hne (Nat.le_refl _)) (hmk.out.below hB.out)⟩
        · go_wp2
          (refine wp_region_ov (by kernel_rfl) (by kernel_rfl) (fun R hR => ?_); (repeat (go_big_quiet_step ((go_at_call 31; exact calls_ov_same (HE2.out _ (by (repeat (first | exact Below.refl _ _ | (with_reducible exact Hid.out (by assumption)) | refine below_al ?_ _ | refine below_dr ?_ | refine below_tr ?_ (by assumption) | refine below_tr ?_ (Bel.out (by assumption)) | refine below_tr ?_ (Bel.out (ov_bel _ _)) | refine below_set ?_ (by simp; try omega))))))))); refine wpQuiet_nil ?_; refine hR.out _ ?_; clear hR R; intro W hW; have hc := hW.cells; have hf := hW.frozens; have hz := hW.size; (try simp at hz))
          have hB := Lib.hid hW.out
          clear hc hf hz hW
          go_wp2
          exact ⟨L.st.length - (A + 1), by omega, E3I.mk (A + 1) T Dl rfl rfl rfl rfl rfl rfl rfl rfl rfl rfl rfl rfl (by omega) (Nat.le_refl _) (HEW.out.below hB.out) (hsix.out.below hB.out) hinv.out hle.out (hseen.out.next hsh.out (by omega)) (hmk.out.below hB.out)⟩
      · have hAE : A = L.st.length := by omega
        have c0 := hew.h.c 0 (by omega)
        have c1 := hew.h.c 1 (by omega)
        have c2 := hew.h.c 2 (by omega)
        have c3 := hew.h.c 3 (by omega)
        have c4 := hew.h.c 4 (by omega)
        have c5 := hew.h.c 5 (by omega)
        have d0 := hsix.c 0 (by omega)
        have d1 := hsix.c 1 (by omega)
        have d2 := hsix.c 2 (by omega)
        have d3 := hsix.c 3 (by omega)
        have d4 := hsix.c 4 (by omega)
        have d5 := hsix.c 5 (by omega)
        have hq := fun W => eql_six W (T 0) (T 1) (T 2) (T 3) (T 4) (T 5) (T0 0) (T0 1) (T0 2) (T0 3) (T0 4) (T0 5)
        cases he : (decide ((T 0 : Int) = T0 0) && decide ((T 1 : Int) = T0 1) && decide ((T 2 : Int) = T0 2) && decide ((T 3 : Int) = T0 3) && decide ((T 4 : Int) = T0 4) && decide ((T 5 : Int) = T0 5)) with
        | true =>
          simp only [he] at hq
          have hall : ∀ x, x < 6 → T x = T0 x := by
            simp only [Bool.and_eq_true, decide_eq_true_eq] at he
            obtain ⟨⟨⟨⟨⟨e0, e1⟩, e2⟩, e3⟩, e4⟩, e5⟩ := he
            intro x hx
            have : x = 0 ∨ x = 1 ∨ x = 2 ∨ x = 3 ∨ x = 4 ∨ x = 5 := by omega
            rcases this with rfl | rfl | rfl | rfl | rfl | rfl <;> omega
          have htab : Hid (IsTable L.st.length L.su.length (gN L k out) src start T) := Lib.hid (hinv.done (hAE ▸ hseen) (fun x hx => (hall x (by omega)).symm))
          obtain ⟨R0, hre⟩ := hew.re
          have r0 := hre.c 0 (by omega)
          have r1 := hre.c 1 (by omega)
          have r2 := hre.c 2 (by omega)
          have r3 := hre.c 3 (by omega)
          have r4 := hre.c 4 (by omega)
          have r5 := hre.c 5 (by omega)
          have s0 := hre.f 0 (by omega)
          have s1 := hre.f 1 (by omega)
          have s2 := hre.f 2 (by omega)
          have s3 := hre.f 3 (by omega)
          have s4 := hre.f 4 (by omega)
          have s5 := hre.f 5 (by omega)
          have HEW := Lib.hid hew
          have HRE := Lib.hid hre
          replace hmk := Lib.hid hmk
          replace hinv := Lib.hid hinv
          replace hseen := Lib.hid hseen
          replace hsix := Lib.hid hsix
          replace hle := Lib.hid hle
          replace hall := Lib.hid hall
          replace hAE := Lib.hid hAE
          clear hew hre he
          go_wp2
          clear c0 c1 c2 c3 c4 c5 d0 d1 d2 d3 d4 d5 r0 r1 r2 r3 r4 r5 s0 s1 s2 s3 s4 s5 hq
          have hsx := (((((HRE.out.set 0 (T 0)).set 1 (T 1)).set 2 (T 2)).set 3 (T 3)).set 4 (T 4)).set 5 (T 5)
          replace hsx := hsx.congr (T' := T) (fun x hx => by
            have : x = 0 ∨ x = 1 ∨ x = 2 ∨ x = 3 ∨ x = 4 ∨ x = 5 := by omega
            rcases this with rfl | rfl | rfl | rfl | rfl | rfl <;> simp)
          have hbf : Below w.heap.size wr ((((((wr.setCell ⟨w.heap.size + 1, 0, none⟩ (.int .i64 (T 0))).setCell ⟨w.heap.size + 1, 1, none⟩ (.int .i64 (T 1))).setCell ⟨w.heap.size + 1, 2, none⟩ (.int .i64 (T 2))).setCell ⟨w.heap.size + 1, 3, none⟩ (.int .i64 (T 3))).setCell ⟨w.heap.size + 1, 4, none⟩ (.int .i64 (T 4))).setCell ⟨w.heap.size + 1, 5, none⟩ (.int .i64 (T 5))) :=
            ((((((Below.refl _ _).setCell (by simp) _).setCell (by simp) _).setCell (by simp) _).setCell (by simp) _).setCell (by simp) _).setCell (by simp) _
          have hmf := (((((hmk.out.set ⟨w.heap.size + 1, 0, none⟩ (.int .i64 (T 0))).set ⟨w.heap.size + 1, 1, none⟩ (.int .i64 (T 1))).set ⟨w.heap.size + 1, 2, none⟩ (.int .i64 (T 2))).set ⟨w.heap.size + 1, 3, none⟩ (.int .i64 (T 3))).set ⟨w.heap.size + 1, 4, none⟩ (.int .i64 (T 4))).set ⟨w.heap.size + 1, 5, none⟩ (.int .i64 (T 5))
          have hkf := HEW.out.km.trB hbf
          have hrf := HEW.out.rm.trB (fun k hk => MS.lt HM.out k hk) hbf
          refine retMs hmf (fun w' hs => ⟨.agg #[.int .i64 (T 0), .int .i64 (T 1), .int .i64 (T 2), .int .i64 (T 3), .int .i64 (T 4), .int .i64 (T 5)], ?_, T, rfl, htab.out, hkf.trB hs.below, hrf.trB (fun k hk => MS.lt HM.out k hk) hs.below⟩)
          have hx := hsx.calm hs.calm
          have t0 := hx.c 0 (by omega)
          have t1 := hx.c 1 (by omega)
          have t2 := hx.c 2 (by omega)
          have t3 := hx.c 3 (by omega)
          have t4 := hx.c 4 (by omega)
          have t5 := hx.c 5 (by omega)
          simp [results, Try.results32, go_sem, t0, t1, t2, t3, t4, t5]
        | false =>
          simp only [he] at hq
          have hlt : total T < total T0 := total_lt hle (fun hall => by
            rw [hall 0 (by omega), hall 1 (by omega), hall 2 (by omega), hall 3 (by omega), hall 4 (by omega), hall 5 (by omega)] at he
            simp at he)
          have HEW := Lib.hid hew
          replace hmk := Lib.hid hmk
          replace hinv := Lib.hid hinv
          replace hseen := Lib.hid hseen
          replace hsix := Lib.hid hsix
          replace hle := Lib.hid hle
          replace hAE := Lib.hid hAE
          clear hew he
          go_wp2
          exact ⟨total T, by omega, E2I.mk T Dl rfl rfl rfl rfl rfl rfl rfl rfl rfl (Nat.le_refl _) HEW.out hinv.out hmk.out⟩
end Go.Proofs.Ytdfohielnfdmkaa

/- Plain laws: the table of the earliest hours is there. -/
namespace Go.Proofs.Ytdfohielnfdmkaa

theorem RIn.all {n E src start h A : Nat} {g : Nat → Nat → Nat → Bool} (hA : A < n) (hE : h < E) (hs : start ≤ h) : ∀ B t, B ≤ n → RIn n E g src start h A 0 t → ∃ t', RIn n E g src start h A B t'
  | 0, t, _, r => ⟨t, r⟩
  | B + 1, t, hB, r => by
    obtain ⟨t', r'⟩ := RIn.all hA hE hs B t (by omega) r
    by_cases hc : t' A ≤ h ∧ t' B = E + 1 ∧ g A B h = true
    · exact ⟨_, r'.set hA (by omega) hE hs hc.1 hc.2.1 hc.2.2⟩
    · exact ⟨t', r'.keep (by omega) hc⟩
theorem RIn.lines {n E src start h : Nat} {g : Nat → Nat → Nat → Bool} (hE : h < E) (hs : start ≤ h) : ∀ A t, A ≤ n → RIn n E g src start h 0 0 t → ∃ t', RIn n E g src start h A 0 t'
  | 0, t, _, r => ⟨t, r⟩
  | A + 1, t, hA, r => by
    obtain ⟨t', r'⟩ := RIn.lines hE hs A t (by omega) r
    obtain ⟨t2, r2⟩ := RIn.all (by omega) hE hs n t' (Nat.le_refl _) r'
    exact ⟨t2, r2.line⟩
theorem RInv.upto {n E src start : Nat} {g : Nat → Nat → Nat → Bool} (hs : start ≤ E) : ∀ d, start + d ≤ E → ∃ t, RInv n E g src start (start + d) t
  | 0, _ => ⟨_, RInv.begin hs⟩
  | d + 1, h => by
    obtain ⟨t, r⟩ := RInv.upto hs d (by omega)
    obtain ⟨t', r'⟩ := RIn.lines (show start + d < E by omega) (by omega) n t (Nat.le_refl _) r.enter
    exact ⟨t', r'.leave⟩
theorem exists_table {n E src start : Nat} (g : Nat → Nat → Nat → Bool) (hs : start ≤ E) : ∃ t, IsTable n E g src start t := by
  obtain ⟨t, r⟩ := RInv.upto (n := n) (src := src) (g := g) hs (E - start) (by omega)
  rw [show start + (E - start) = E by omega] at r
  exact ⟨t, r.table⟩
open Classical in
/-- The table of the earliest hours. -/
noncomputable def tab (n E : Nat) (g : Nat → Nat → Nat → Bool) (src start : Nat) : Nat → Nat := if h : ∃ t, IsTable n E g src start t then Classical.choose h else fun _ => 0
theorem tab_is {n E src start : Nat} (g : Nat → Nat → Nat → Bool) (hs : start ≤ E) : IsTable n E g src start (tab n E g src start) := by
  unfold tab
  rw [dif_pos (exists_table g hs)]
  exact Classical.choose_spec (exists_table g hs)
theorem tab_eq {n E src start : Nat} {g : Nat → Nat → Nat → Bool} {t : Nat → Nat} (hs : start ≤ E) (h : IsTable n E g src start t) {b : Nat} (hb : b < n) : t b = tab n E g src start b := h.unique (tab_is g hs) b hb
theorem tab_le {n E src start : Nat} {g : Nat → Nat → Nat → Bool} (hs : start ≤ E) {b : Nat} (hb : b < n) : tab n E g src start b ≤ E + 1 := (tab_is g hs).hi b hb

/-- The greatest of the first m numbers, and where it is first. -/
def sureTo (f : Nat → Nat) : Nat → Int × Nat
  | 0 => (-1, 0)
  | m + 1 => if (sureTo f m).1 < (f m : Int) then ((f m : Int), m) else sureTo f m
theorem sureTo_lo (f : Nat → Nat) : ∀ m, -1 ≤ (sureTo f m).1
  | 0 => by simp [sureTo]
  | m + 1 => by
    have := sureTo_lo f m
    simp only [sureTo]
    split
    · simp only; omega
    · exact this
theorem sureTo_ge (f : Nat → Nat) : ∀ m k, k < m → (f k : Int) ≤ (sureTo f m).1
  | 0, k, h => by omega
  | m + 1, k, h => by
    simp only [sureTo]
    by_cases hk : k = m
    · subst hk
      split
      · simp
      · omega
    · have := sureTo_ge f m k (by omega)
      split
      · simp only; omega
      · exact this
theorem sureTo_at (f : Nat → Nat) : ∀ m, 0 < m → (sureTo f m).2 < m ∧ (sureTo f m).1 = f (sureTo f m).2 ∧ ∀ k, k < (sureTo f m).2 → f k < f (sureTo f m).2
  | 0, h => by omega
  | m + 1, _ => by
    simp only [sureTo]
    rcases Nat.eq_zero_or_pos m with rfl | hm
    · rw [show (sureTo f 0).1 = -1 from rfl, if_pos (show (-1 : Int) < (f 0 : Int) by omega)]
      exact ⟨by simp, rfl, fun k hk => by simp at hk⟩
    · obtain ⟨h1, h2, h3⟩ := sureTo_at f m hm
      split
      · rename_i hlt
        refine ⟨by simp, rfl, fun k hk => ?_⟩
        simp only at hk ⊢
        have := sureTo_ge f m k hk
        omega
      · exact ⟨by omega, h2, h3⟩
theorem sureTo_hi (f : Nat → Nat) (c : Int) (hc : -1 ≤ c) : ∀ m, (∀ k, k < m → (f k : Int) ≤ c) → (sureTo f m).1 ≤ c
  | 0, _ => hc
  | m + 1, h => by
    have := sureTo_hi f c hc m (fun k hk => h k (by omega))
    simp only [sureTo]
    split
    · exact h m (by omega)
    · exact this
end Go.Proofs.Ytdfohielnfdmkaa

/- Walks: package relay: the sure hour. -/
set_option linter.unusedVariables false
set_option linter.unusedSimpArgs false
namespace Go.Proofs.Ytdfohielnfdmkaa
open Go.RowKit
attribute [local go_sem low] cell_alloc_ite frozen_alloc_ite ov_cell ov_frozen cell_alloc_map frozen_alloc_map

theorem open_err (V : LV) (L : Lnd) (A B : Option Addr) (ca cb : Nat) (xs ys : List Int) (k : Int) (w : World) (hr : RdL w V L) (hxs : RowAt w A 1 encInt xs) (hys : RowAt w B 1 encInt ys) (lx : xs.length ≤ 2) (ly : ys.length ≤ 2)
    (he : (openE L xs ys k != 0) = true) :
    Calls Try.prog 27 #[vLnd V L, .slice A xs.length ca, .slice B ys.length cb, .int .i64 k] w fun e w' => e = .returned (.tuple #[.pointer none, .int .i64 (openE L xs ys k)]) ∧ Below w.heap.size w w' := by
  by_cases hf : faultL L = 0
  · have h2 : openE L xs ys k = 2 := by
      have := he
      unfold openE at this ⊢
      rw [if_neg (by simpa using hf)] at this ⊢
      split
      · rfl
      · rename_i h; rw [if_neg h] at this; simp at this
    rw [h2]
    exact open_range V L A B ca cb xs ys k w hr hf hxs hys lx ly h2
  · exact open_fault V L A B ca cb xs ys k w hr (by simpa using hf)
theorem rm_new {w : World} {L : Lnd} {rs : Nat → Nat} (h : ∀ k, k < L.ca.length → w.heap[rs k]? = some (.map #[] 0)) : RM w L rs := fun k hk => ⟨_, _, h k hk, fun e he => by simp at he⟩

/-- The earliest hours of a land. -/
noncomputable def eT (L : Lnd) (out : Int) (src start k : Nat) : Nat → Nat := tab L.st.length L.su.length (gN L k out) src start
theorem eT_le {L : Lnd} {out : Int} {src start k b : Nat} (hs : start ≤ L.su.length) (hb : b < L.st.length) : eT L out src start k b ≤ L.su.length + 1 := tab_le hs hb
theorem eT_is {L : Lnd} {out : Int} {src start k : Nat} (hs : start ≤ L.su.length) : IsTable L.st.length L.su.length (gN L k out) src start (eT L out src start k) := tab_is _ hs
/-- What 'sure' gives. -/
def SureMade (L : Lnd) (rs : Nat → Nat) (out : Int) (src dst start : Nat) (w : World) (e : Ending) (w' : World) : Prop :=
  e = .returned (.tuple #[.int .i64 (sureTo (fun k => eT L out src start k dst) L.ca.length).1, .int .i64 (sureTo (fun k => eT L out src start k dst) L.ca.length).2]) ∧ KeepM (MS L rs) w w' ∧ RM w' L rs

theorem index_at0 (x0 x1 x2 x3 x4 x5 : Value) (w : World) : (Instr.index 87 (.agg #[x0, x1, x2, x3, x4, x5]) (.int .i64 0)).run Try.prog w = .ok x0 w := by kernel_rfl
theorem index_at1 (x0 x1 x2 x3 x4 x5 : Value) (w : World) : (Instr.index 87 (.agg #[x0, x1, x2, x3, x4, x5]) (.int .i64 1)).run Try.prog w = .ok x1 w := by kernel_rfl
theorem index_at2 (x0 x1 x2 x3 x4 x5 : Value) (w : World) : (Instr.index 87 (.agg #[x0, x1, x2, x3, x4, x5]) (.int .i64 2)).run Try.prog w = .ok x2 w := by kernel_rfl
theorem index_at3 (x0 x1 x2 x3 x4 x5 : Value) (w : World) : (Instr.index 87 (.agg #[x0, x1, x2, x3, x4, x5]) (.int .i64 3)).run Try.prog w = .ok x3 w := by kernel_rfl
theorem index_at4 (x0 x1 x2 x3 x4 x5 : Value) (w : World) : (Instr.index 87 (.agg #[x0, x1, x2, x3, x4, x5]) (.int .i64 4)).run Try.prog w = .ok x4 w := by kernel_rfl
theorem index_at5 (x0 x1 x2 x3 x4 x5 : Value) (w : World) : (Instr.index 87 (.agg #[x0, x1, x2, x3, x4, x5]) (.int .i64 5)).run Try.prog w = .ok x5 w := by kernel_rfl
theorem index_six (T : Nat → Nat) (j : Nat) (hj : j < 6) (w : World) : (Instr.index 87 (.agg #[.int .i64 (T 0), .int .i64 (T 1), .int .i64 (T 2), .int .i64 (T 3), .int .i64 (T 4), .int .i64 (T 5)]) (.int .i64 j)).run Try.prog w = .ok (.int .i64 (T j)) w := by
  have : j = 0 ∨ j = 1 ∨ j = 2 ∨ j = 3 ∨ j = 4 ∨ j = 5 := by omega
  rcases this with rfl | rfl | rfl | rfl | rfl | rfl
  · exact index_at0 _ _ _ _ _ _ w
  · exact index_at1 _ _ _ _ _ _ w
  · exact index_at2 _ _ _ _ _ _ w
  · exact index_at3 _ _ _ _ _ _ w
  · exact index_at4 _ _ _ _ _ _ w
  · exact index_at5 _ _ _ _ _ _ w

set_option maxHeartbeats 4000000 in
theorem sure_any (p kb kc : Nat) (V : LV) (L : Lnd) (rs : Nat → Nat) (src dst start : Nat) (out : Int) (w : World) (hw : RW w p kb kc V L rs) (hm : RM w L rs) (ok : Okay L) (ls : src < L.st.length) (lt : dst < L.st.length) (le : start ≤ L.su.length) :
    Calls Try.prog 28 #[.pointer (some ⟨p, 0, none⟩), .int .i64 src, .int .i64 dst, .int .i64 start, .int .i64 out] w (SureMade L rs out src dst start w) := by
  have x2 := hw.cells 2 _ rfl
  have hc1 := ok.c1
  have hs1 := ok.s1
  have hu1 := ok.u1
  have HC := Lib.hid (fun (W : World) (hk : KeepM (MS L rs) w W) (hm' : RM W L rs) (k : Nat) (lk : k < L.ca.length) => earliest_any p kb kc V L rs src start k out W (hw.keep hk) hm' ok ls le lk)
  have HF : Hid (∀ k, eT L out src start k dst ≤ L.su.length + 1) := Lib.hid fun k => tab_le le lt
  have hM0 := Lib.hid hm.maps
  have HM := Lib.hid hm
  clear hw hm ok
  obtain ⟨f, hf⟩ : ∃ f : Nat → Nat, f = fun k => eT L out src start k dst := ⟨_, rfl⟩
  have HFE := Lib.hid hf
  clear hf
  go_enter Try.func28, Try.ntmps28
  go_wp2
  go_loopw [20, 10, 11] (fun i h c wr => ∃ j : Nat, j ≤ L.ca.length ∧ i = .int .i64 j ∧ h = .int .i64 (sureTo f j).1 ∧ c = .int .i64 (sureTo f j).2 ∧ KeepM (MS L rs) w wr ∧ RM wr L rs) (fun i _ _ _ => L.ca.length - (intOf i).toNat)
  case atStart => exact ⟨0, Nat.zero_le _, rfl, rfl, rfl, .refl hM0.out, HM.out⟩
  case round =>
    clear x2
    obtain ⟨j, hj, rfl, rfl, rfl, hkm, hrm⟩ := hrel
    by_cases hlt : j < L.ca.length
    · replace hkm := Lib.hid hkm
      replace hrm := Lib.hid hrm
      go_wp2_with fail
      refine (HC.out _ hkm.out hrm.out j hlt).mono ?_
      rintro e w1 ⟨T, rfl, htab, hkm1, hrm1⟩
      have hix := index_six T dst (by omega)
      have hT : T dst = f j := by rw [HFE.out]; exact tab_eq le htab lt
      have hfb : f j ≤ L.su.length + 1 := by rw [HFE.out]; exact HF.out j
      rw [hT] at hix
      replace hT := Lib.hid hT
      replace hkm1 := Lib.hid (hkm.out.trans hkm1)
      replace hrm1 := Lib.hid hrm1
      clear htab hkm hrm
      cases hcmp : decide ((sureTo f j).1 < (f j : Int)) with
      | true =>
        have hnx : Hid (sureTo f (j + 1) = ((f j : Int), j)) := Lib.hid (by simp only [sureTo]; rw [if_pos (by simpa using hcmp)])
        go_wp2
        go_roundw
        case rel => exact ⟨j + 1, by omega, by go_num, by rw [hnx.out], by rw [hnx.out], hkm1.out, hrm1.out⟩
        case measure => simp [intOf]; omega
      | false =>
        have hnx : Hid (sureTo f (j + 1) = sureTo f j) := Lib.hid (by simp only [sureTo]; rw [if_neg (by simpa using hcmp)])
        go_wp2
        go_roundw
        case rel => exact ⟨j + 1, by omega, by go_num, by rw [hnx.out], by rw [hnx.out], hkm1.out, hrm1.out⟩
        case measure => simp [intOf]; omega
    · have hjn : j = L.ca.length := by omega
      subst hjn
      replace hkm := Lib.hid hkm
      replace hrm := Lib.hid hrm
      go_wp2
      go_ret2
      exact ⟨by rw [← HFE.out]; rfl, hkm.out, hrm.out⟩
end Go.Proofs.Ytdfohielnfdmkaa

/- Walks: package relay: Sure, Earliest, Stuck. -/
set_option linter.unusedVariables false
set_option linter.unusedSimpArgs false
namespace Go.Proofs.Ytdfohielnfdmkaa
open Go.RowKit
attribute [local go_sem low] cell_alloc_ite frozen_alloc_ite ov_cell ov_frozen cell_alloc_map frozen_alloc_map

theorem openE_zero {L : Lnd} {xs ys : List Int} {k : Int} (h : openE L xs ys k = 0) : faultL L = 0 ∧ (∀ x, x ∈ xs → 0 ≤ x ∧ x < L.st.length) ∧ (∀ y, y ∈ ys → 0 ≤ y ∧ y ≤ L.su.length) ∧ 0 ≤ k ∧ k < L.ca.length := by
  unfold openE at h
  by_cases hf : faultL L = 0
  · rw [if_neg (by simpa using hf)] at h
    split at h
    · cases h
    · rename_i h2
      simp only [Bool.or_eq_true, Bool.not_eq_true', not_or, Bool.not_eq_false, List.all_eq_true, inR_true] at h2
      obtain ⟨⟨a, b⟩, c, d⟩ := h2
      exact ⟨hf, fun x hx => by have := a x hx; omega, b, c, by omega⟩
  · rw [if_pos (by simpa using hf)] at h
    exact absurd h hf

/-- Two stations and an hour, as they lie. -/
theorem open21_err (V : LV) (L : Lnd) (f t s : Int) (b1 b2 : Nat) (w : World) (hr : RdL w V L) (h0 : w.cell? ⟨b1, 0, none⟩ = some (.int .i64 f)) (h1 : w.cell? ⟨b1, 1, none⟩ = some (.int .i64 t)) (h2 : w.cell? ⟨b2, 0, none⟩ = some (.int .i64 s)) (he : (openE L [f, t] [s] 0 != 0) = true) :
    Calls Try.prog 27 #[vLnd V L, .slice (some ⟨b1, 0, none⟩) 2 2, .slice (some ⟨b2, 0, none⟩) 1 1, .int .i64 0] w fun e w' => e = .returned (.tuple #[.pointer none, .int .i64 (openE L [f, t] [s] 0)]) ∧ Below w.heap.size w w' :=
  open_err V L (some ⟨b1, 0, none⟩) (some ⟨b2, 0, none⟩) 2 1 [f, t] [s] 0 w hr (rowInts2 h0 h1) (rowInts1 h2) (by simp) (by simp) he
theorem open21_ok (V : LV) (L : Lnd) (f t s : Int) (b1 b2 : Nat) (w : World) (hr : RdL w V L) (h0 : w.cell? ⟨b1, 0, none⟩ = some (.int .i64 f)) (h1 : w.cell? ⟨b1, 1, none⟩ = some (.int .i64 t)) (h2 : w.cell? ⟨b2, 0, none⟩ = some (.int .i64 s)) (he : openE L [f, t] [s] 0 = 0) :
    Calls Try.prog 27 #[vLnd V L, .slice (some ⟨b1, 0, none⟩) 2 2, .slice (some ⟨b2, 0, none⟩) 1 1, .int .i64 0] w (OpenMade V L w) :=
  open_ok V L (some ⟨b1, 0, none⟩) (some ⟨b2, 0, none⟩) 2 1 [f, t] [s] 0 w hr (openE_zero he).1 (rowInts2 h0 h1) (rowInts1 h2) (by simp) (by simp) he
theorem open11_err (V : LV) (L : Lnd) (f s k : Int) (b1 b2 : Nat) (w : World) (hr : RdL w V L) (h0 : w.cell? ⟨b1, 0, none⟩ = some (.int .i64 f)) (h2 : w.cell? ⟨b2, 0, none⟩ = some (.int .i64 s)) (he : (openE L [f] [s] k != 0) = true) :
    Calls Try.prog 27 #[vLnd V L, .slice (some ⟨b1, 0, none⟩) 1 1, .slice (some ⟨b2, 0, none⟩) 1 1, .int .i64 k] w fun e w' => e = .returned (.tuple #[.pointer none, .int .i64 (openE L [f] [s] k)]) ∧ Below w.heap.size w w' :=
  open_err V L (some ⟨b1, 0, none⟩) (some ⟨b2, 0, none⟩) 1 1 [f] [s] k w hr (rowInts1 h0) (rowInts1 h2) (by simp) (by simp) he
theorem open11_ok (V : LV) (L : Lnd) (f s k : Int) (b1 b2 : Nat) (w : World) (hr : RdL w V L) (h0 : w.cell? ⟨b1, 0, none⟩ = some (.int .i64 f)) (h2 : w.cell? ⟨b2, 0, none⟩ = some (.int .i64 s)) (he : openE L [f] [s] k = 0) :
    Calls Try.prog 27 #[vLnd V L, .slice (some ⟨b1, 0, none⟩) 1 1, .slice (some ⟨b2, 0, none⟩) 1 1, .int .i64 k] w (OpenMade V L w) :=
  open_ok V L (some ⟨b1, 0, none⟩) (some ⟨b2, 0, none⟩) 1 1 [f] [s] k w hr (openE_zero he).1 (rowInts1 h0) (rowInts1 h2) (by simp) (by simp) he

/-- The sure hour, its first case, and the error. -/
noncomputable def sureR (L : Lnd) (f t s : Int) : Int × Int × Int :=
  if openE L [f, t] [s] 0 ≠ 0 then (0, 0, openE L [f, t] [s] 0)
  else if (L.su.length : Int) < (sureTo (fun k => eT L (-1) f.toNat s.toNat k t.toNat) L.ca.length).1 then (0, 0, 10)
  else ((sureTo (fun k => eT L (-1) f.toNat s.toNat k t.toNat) L.ca.length).1, (sureTo (fun k => eT L (-1) f.toNat s.toNat k t.toNat) L.ca.length).2, 0)
def SureTop (L : Lnd) (f t s : Int) (w : World) (e : Ending) (w' : World) : Prop :=
  e = .returned (.tuple #[.int .i64 (sureR L f t s).1, .int .i64 (sureR L f t s).2.1, .int .i64 (sureR L f t s).2.2]) ∧ Below w.heap.size w w'

set_option maxHeartbeats 4000000 in
theorem sureTop_any (V : LV) (L : Lnd) (f t s : Int) (w : World) (hr : RdL w V L) :
    Calls Try.prog 12 #[vLnd V L, .int .i64 f, .int .i64 t, .int .i64 s] w (SureTop L f t s w) := by
  cases he : (openE L [f, t] [s] 0 != 0) with
  | true =>
    have HO := Lib.hid (fun W b1 b2 (hW : Below w.heap.size w W) h0 h1 h2 => open21_err V L f t s b1 b2 W (hr.below hW) h0 h1 h2 he)
    have HS : Hid (sureR L f t s = (0, 0, openE L [f, t] [s] 0)) := Lib.hid (by unfold sureR; rw [if_pos (by simpa using he)])
    clear hr
    go_enter Try.func12, Try.ntmps12
    go_wp2_with (go_at_call 27; refine (HO.out _ (w.heap.size + 1) (w.heap.size + 1 + 1) (by (repeat (first | exact Below.refl _ _ | (with_reducible exact Hid.out (by assumption)) | refine below_al ?_ _ | refine below_dr ?_ | refine below_tr ?_ (by assumption) | refine below_tr ?_ (Bel.out (by assumption)) | refine below_tr ?_ (Bel.out (ov_bel _ _)) | refine below_set ?_ (by simp; try omega)))) (by (try go_simp); (repeat (simp only [↓IntWalk.iteOmega]; (try go_simp))); (try omega)) (by (try go_simp); (repeat (simp only [↓IntWalk.iteOmega]; (try go_simp))); (try omega)) (by (try go_simp); (repeat (simp only [↓IntWalk.iteOmega]; (try go_simp))); (try omega))).mono ?_; rintro e w' ⟨rfl, hb⟩; obtain ⟨hc, hf⟩ := bcell hb; have hz := hb.size; try simp at hz)
    go_ret3
    exact ⟨by rw [HS.out]; rfl, by (repeat (first | exact Below.refl _ _ | (with_reducible exact Hid.out (by assumption)) | refine below_al ?_ _ | refine below_dr ?_ | refine below_tr ?_ (by assumption) | refine below_tr ?_ (Bel.out (by assumption)) | refine below_tr ?_ (Bel.out (ov_bel _ _)) | refine below_set ?_ (by simp; try omega)))⟩
  | false =>
    have he0 : openE L [f, t] [s] 0 = 0 := by simpa using he
    have HO := Lib.hid (fun W b1 b2 (hW : Below w.heap.size w W) h0 h1 h2 => open21_ok V L f t s b1 b2 W (hr.below hW) h0 h1 h2 he0)
    obtain ⟨hf, hst, hti, _⟩ := openE_zero he0
    obtain ⟨f0, f1⟩ := hst f (by simp)
    obtain ⟨t0, t1⟩ := hst t (by simp)
    obtain ⟨s0, s1⟩ := hti s (by simp)
    obtain ⟨f', rfl⟩ := Int.eq_ofNat_of_zero_le f0
    obtain ⟨t', rfl⟩ := Int.eq_ofNat_of_zero_le t0
    obtain ⟨s', rfl⟩ := Int.eq_ofNat_of_zero_le s0
    have ok := okay_of hf
    have hu1 := ok.u1
    have hl3 := hr.l3
    have HSU := Lib.hid (fun p kb kc rs (W : World) (hw : RW W p kb kc V L rs) (hm : RM W L rs) => sure_any p kb kc V L rs f' t' s' (-1) W hw hm ok (by omega) (by omega) (by omega))
    have hfb : (sureTo (fun k => eT L (-1) f' s' k t') L.ca.length).1 ≤ L.su.length + 1 := sureTo_hi _ _ (by omega) _ (fun k _ => by have := eT_le (L := L) (out := -1) (src := f') (k := k) (show s' ≤ L.su.length by omega) (show t' < L.st.length by omega); omega)
    have hlb := sureTo_lo (fun k => eT L (-1) f' s' k t') L.ca.length
    have hkb : (sureTo (fun k => eT L (-1) f' s' k t') L.ca.length).2 < L.ca.length := (sureTo_at _ _ ok.c0).1
    have HS : Hid (sureR L f' t' s' = if (L.su.length : Int) < (sureTo (fun k => eT L (-1) f' s' k t') L.ca.length).1 then ((0 : Int), (0 : Int), (10 : Int)) else ((sureTo (fun k => eT L (-1) f' s' k t') L.ca.length).1, (((sureTo (fun k => eT L (-1) f' s' k t') L.ca.length).2 : Nat) : Int), 0)) := Lib.hid (by
      unfold sureR; rw [if_neg (by simpa using he0)]; rfl)
    unfold SureMade at HSU
    generalize sureTo (fun k => eT L (-1) f' s' k t') L.ca.length = r at *
    obtain ⟨r1, r2⟩ := r
    simp only at hfb hlb hkb HS HSU
    clear he he0 hr hst hti ok f0 t0 s0
    cases hcmp : decide ((L.su.length : Int) < r1) with
    | true =>
      have HS2 : Hid (sureR L f' t' s' = (0, 0, 10)) := Lib.hid (by rw [HS.out, if_pos (by simpa using hcmp)])
      go_enter Try.func12, Try.ntmps12
      go_wp2_with fail
      refine (HO.out _ (w.heap.size + 1) (w.heap.size + 1 + 1) (by (repeat (first | exact Below.refl _ _ | (with_reducible exact Hid.out (by assumption)) | refine below_al ?_ _ | refine below_dr ?_ | refine below_tr ?_ (by assumption) | refine below_tr ?_ (Bel.out (by assumption)) | refine below_tr ?_ (Bel.out (ov_bel _ _)) | refine below_set ?_ (by simp; try omega)))) (by (try go_simp); (repeat (simp only [↓IntWalk.iteOmega]; (try go_simp))); (try omega)) (by (try go_simp); (repeat (simp only [↓IntWalk.iteOmega]; (try go_simp))); (try omega)) (by (try go_simp); (repeat (simp only [↓IntWalk.iteOmega]; (try go_simp))); (try omega))).mono ?_
      rintro e w1 ⟨p, kb, kc, rs, rfl, hb, hrw, hmap⟩
      have hrm := rm_new (L := L) (fun k hk => (hmap k hk).2)
      have hB := Lib.hid (show Below w.heap.size w w1 by (repeat (first | exact Below.refl _ _ | (with_reducible exact Hid.out (by assumption)) | refine below_al ?_ _ | refine below_dr ?_ | refine below_tr ?_ (by assumption) | refine below_tr ?_ (Bel.out (by assumption)) | refine below_tr ?_ (Bel.out (ov_bel _ _)) | refine below_set ?_ (by simp; try omega))))
      have hge := Lib.hid (fun k hk => (hmap k hk).1)
      replace hrw := Lib.hid hrw
      replace hrm := Lib.hid hrm
      clear hmap hb
      go_wp2_with fail
      refine (HSU.out p kb kc rs w1 hrw.out hrm.out).mono ?_
      rintro e w2 ⟨rfl, hkm, hrm2⟩
      have HE := Lib.hid (end_any p V L w2 ((hrw.out.keep hkm).cells) hl3)
      replace hkm := Lib.hid hkm
      clear hrm2
      go_wp2_with (go_at_call 31; refine (HE.out).mono ?_; rintro e w' ⟨rfl, rfl⟩)
      go_ret3
      exact ⟨by rw [HS2.out]; rfl, KeepM.below hB.out hkm.out (fun i ⟨k, hk, e⟩ => by subst e; have := hge.out k hk; simp at this; omega)⟩
    | false =>
      have HS2 : Hid (sureR L f' t' s' = (r1, (r2 : Int), 0)) := Lib.hid (by rw [HS.out, if_neg (by simpa using hcmp)])
      go_enter Try.func12, Try.ntmps12
      go_wp2_with fail
      refine (HO.out _ (w.heap.size + 1) (w.heap.size + 1 + 1) (by (repeat (first | exact Below.refl _ _ | (with_reducible exact Hid.out (by assumption)) | refine below_al ?_ _ | refine below_dr ?_ | refine below_tr ?_ (by assumption) | refine below_tr ?_ (Bel.out (by assumption)) | refine below_tr ?_ (Bel.out (ov_bel _ _)) | refine below_set ?_ (by simp; try omega)))) (by (try go_simp); (repeat (simp only [↓IntWalk.iteOmega]; (try go_simp))); (try omega)) (by (try go_simp); (repeat (simp only [↓IntWalk.iteOmega]; (try go_simp))); (try omega)) (by (try go_simp); (repeat (simp only [↓IntWalk.iteOmega]; (try go_simp))); (try omega))).mono ?_
      rintro e w1 ⟨p, kb, kc, rs, rfl, hb, hrw, hmap⟩
      have hrm := rm_new (L := L) (fun k hk => (hmap k hk).2)
      have hB := Lib.hid (show Below w.heap.size w w1 by (repeat (first | exact Below.refl _ _ | (with_reducible exact Hid.out (by assumption)) | refine below_al ?_ _ | refine below_dr ?_ | refine below_tr ?_ (by assumption) | refine below_tr ?_ (Bel.out (by assumption)) | refine below_tr ?_ (Bel.out (ov_bel _ _)) | refine below_set ?_ (by simp; try omega))))
      have hge := Lib.hid (fun k hk => (hmap k hk).1)
      replace hrw := Lib.hid hrw
      replace hrm := Lib.hid hrm
      clear hmap hb
      go_wp2_with fail
      refine (HSU.out p kb kc rs w1 hrw.out hrm.out).mono ?_
      rintro e w2 ⟨rfl, hkm, hrm2⟩
      have HE := Lib.hid (end_any p V L w2 ((hrw.out.keep hkm).cells) hl3)
      replace hkm := Lib.hid hkm
      clear hrm2
      go_wp2_with (go_at_call 31; refine (HE.out).mono ?_; rintro e w' ⟨rfl, rfl⟩)
      go_ret3
      exact ⟨by rw [HS2.out]; rfl, KeepM.below hB.out hkm.out (fun i ⟨k, hk, e⟩ => by subst e; have := hge.out k hk; simp at this; omega)⟩
end Go.Proofs.Ytdfohielnfdmkaa

