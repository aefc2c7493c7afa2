/- What the rows share: the table of tens out of a row's list; the closing of a law that answers true and keeps everything that stood. -/
import Derived.Test.YtlhpncpihbpkoaaDoorCards
import Derived.Test.YtlhpncpihbpkoaaDoorTie
import Derived.Test.YtlhpncpihbpkoaaDoorBuf2
import Derived.WalkKit
import Derived.ProofKit
import Derived.OpenShut
import Derived.SizedLaws
import Derived.Deep.DeepHandedRow
import Derived.Lib.LaidTab
import Derived.LaidSub
import Derived.Lay
namespace Go.Proofs.YtlhpncpihbpkoaaDoor
open Go.ChangeShapes Go.WideShapes Go.ChangeAt Go.RowKit

theorem own : ownKnob Tryd.prog.godebug = none := by kernel_rfl
theorem laidOut : laidOutB Tryd.prog = true := by kernel_rfl
theorem gPowT : (Tryd.prog.globals[3]?).map (·.type) = some 96 := by kernel_rfl
theorem cellsPow : Tryd.prog.cellsOf 96 = 20 := by kernel_rfl
theorem cells64 : Tryd.prog.cellsOf 64 = 1 := by kernel_rfl

/-- The list of the rows of the package carryalllaw11. -/
def laid11 : List (String × DataW Unit) := [("math/bits.deBruijn32tab", Rows.laid_math_bits_deBruijn32tab), ("math/bits.deBruijn64tab", Rows.laid_math_bits_deBruijn64tab), ("internal/strconv.uint64pow10", Rows.laid_internal_strconv_uint64pow10)]
theorem keep11 : (laid11.filter fun x => x.1 == "internal/strconv.uint64pow10") = [("internal/strconv.uint64pow10", Lib.tabData .u64 Lib.pow10Tab)] := by kernel_rfl
theorem tab11 {W : World} (h : laidMetH Tryd.prog laid11 W) : Tab W := by
  have h1 := h.filter fun x => x.1 == "internal/strconv.uint64pow10"
  rw [keep11, MakeChecks.laidMetH_plain _ _ _ (by kernel_rfl)] at h1
  exact Lib.tabIs_of_head (rest := []) gPow gPowT Tryd.underlying96 Tryd.underlying64 cells64 cellsPow h1
theorem met11 (os : Os) (args : Array Value) : laidMet Tryd.prog laid11 ((World.laidAll Tryd.prog os laid11).forCall (fun _ _ => 0) ⟨#[], args, []⟩).memory :=
  laidMet_laidAll _ (by kernel_rfl) (by kernel_rfl)

/-- An argument reads behind the call as before: the call leaves alone what stood. -/
theorem stays {H : Type} {enc : TypeId × Value → H} {t : TypeId} (hr : Tryd.prog.readableRec t = true) (hrow : decide (t < Tryd.prog.types.size) = true) {W W' : World} {v : Value} {d : DataW H} {ps : List MemPlace}
    (h : DataW.Trod enc Tryd.prog W 0 (fun _ => true) true t v d ps) (hb : Below W.heap.size W W') : DataW.Trod enc Tryd.prog W' 0 (fun b => decide (b < W.heap.size)) true t v d ps :=
  Below.trod laidOut hr (of_decide_eq_true hrow) h hb (by obtain ⟨n, hn⟩ := h; exact DataW.trod_lt n _ _ _ hn)
theorem want {l : List TypeId} (hall : (l.all fun u => !Tryd.prog.wantsStandIn u) = true) {t : TypeId} (hm : t ∈ l) : Tryd.prog.wantsStandIn t = false := by
  have := List.all_eq_true.1 hall t hm
  simpa using this
end Go.Proofs.YtlhpncpihbpkoaaDoor
