/- Part KS of the proof: X7. -/
import Derived.Test.YtdfohielnfdmkaaKM
import Derived.Test.YtdfohielnfdmkaaKQ
import Derived.Test.YtdfohielnfdmkaaKP
set_option linter.unusedVariables false
set_option linter.unusedSimpArgs false
/- Walks: the law RelayLatest, over a land that is thin. -/
set_option linter.unusedVariables false
set_option linter.unusedSimpArgs false
namespace Go.Proofs.Ytdfohielnfdmkaa
open Go.RowKit
attribute [local go_sem low] cell_alloc_ite frozen_alloc_ite ov_cell ov_frozen

/-- A row of ints is handed back. -/
def RowTop (r : List Int) (w : World) (e : Ending) (w' : World) : Prop := ∃ A c, e = .returned (.slice A r.length c) ∧ RowAt w' A 1 encInt r ∧ r.length ≤ c ∧ Below w.heap.size w w'
/-- A land once more, for the program. -/
theorem landB_any (V : LV) (L : Lnd) (w W : World) (hr : RdL w V L) (hW : Below w.heap.size w W) : Calls Try.prog 11 #[vLnd V L] W (LandMade L W) := land_any V L W (hr.below hW)

def LatRel (w0 : World) (p1 p2 : Int) (v15 v17 : Value) (wc : World) : Prop := v15 = .int .i64 p2 ∧ v17 = .int .i64 p1 ∧ Below w0.heap.size w0 wc
def DueRel (w0 : World) (d : Int) (l : List Int) (v16 v18 : Value) (wc : World) : Prop := v16 = .int .i64 d ∧ (∃ A c, v18 = .slice A l.length c ∧ RowAt wc A 1 encInt l) ∧ Below w0.heap.size w0 wc
def LvI (w0 : World) (q : Nat → Bool) (n : Nat) (i v : Value) (wr : World) : Prop := ∃ j : Nat, j ≤ n ∧ i = .int .i64 j ∧ wr.ownsRow w0.heap.size 3 1 v (fiTo q j).length ((fiTo q j).map (Value.int .i64)) ∧ Below w0.heap.size w0 wr

end Go.Proofs.Ytdfohielnfdmkaa

