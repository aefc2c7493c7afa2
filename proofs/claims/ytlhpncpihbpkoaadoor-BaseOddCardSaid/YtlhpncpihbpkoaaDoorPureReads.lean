/- BaseReads over lists and numbers alone: the printed function answers true at every input. No conditions. -/
import Derived.Test.YtlhpncpihbpkoaaDoorPure3
import Derived.Test.YtlhpncpihbpkoaaDoorX8
namespace Go.Proofs.YtlhpncpihbpkoaaDoor.X
open Go.RowKit Go.Proofs.YtlhpncpihbpkoaaDoorW.PrintWords Go.Proofs.YtlhpncpihbpkoaaDoorW.PrintLast Go.Proofs.YtlhpncpihbpkoaaDoorW.PrintMore

theorem BaseReads_pure (a0 : ByteArray) : ∃ k, carryalllaw03_BaseReads.f k a0 = some true := by
  refine ⟨1, ?_⟩
  unfold carryalllaw03_BaseReads.f Ext.law03_awake.f
  simp only [Option.bind_some, if_true]
  by_cases hz : (a0.size : Int) > 400
  · rw [decide_eq_true hz]
    simp only [carryalllaw03_BaseReads.j0, if_true, Ext.law03_awake.f, Option.bind_some]
  · rw [decide_eq_false hz]
    simp only [carryalllaw03_BaseReads.j0, Bool.false_eq_true, if_false]
    rw [bdec a0 (by omega), rdec a0 (by omega)]
    simp only [Option.bind_some, beq_self_eq_true, if_true]
    cases h : dec a0.data.toList with
    | none => simp [ofB]
    | some l => simp
end Go.Proofs.YtlhpncpihbpkoaaDoor.X
