/- BaseParts over lists and numbers alone: the printed function answers true at every input of its kinds. No other conditions. -/
import Derived.Test.YtlhpncpihbpkoaaDoorPure3
import Derived.Test.YtlhpncpihbpkoaaDoorX10
namespace Go.Proofs.YtlhpncpihbpkoaaDoor.X
open Go.RowKit Go.Proofs.YtlhpncpihbpkoaaDoorW.PrintWords Go.Proofs.YtlhpncpihbpkoaaDoorW.PrintLast Go.Proofs.YtlhpncpihbpkoaaDoorW.PrintMore

theorem BaseParts_pure (l0 : List Int) (a1 : Int) (hb : okB l0 = true) (h1 : 0 ≤ a1 ∧ a1 ≤ 255) : ∃ k, carryalllaw03_BaseParts.f k l0 a1 = some true := by
  refine ⟨1, ?_⟩
  unfold carryalllaw03_BaseParts.f Ext.law03_awake.f
  simp only [Option.bind_some, if_true]
  by_cases hz : (l0.length : Int) > 300
  · rw [decide_eq_true hz]
    simp only [carryalllaw03_BaseParts.j0, if_true, Ext.law03_awake.f, Option.bind_some]
  · rw [decide_eq_false hz]
    simp only [carryalllaw03_BaseParts.j0, Bool.false_eq_true, if_false]
    rw [benc l0 hb (by omega)]
    rw [Option.bind_some]
    have hl : (toB l0).length = l0.length := toB_len l0
    have hs : ((bs (e3 (toB l0))).size : Int) = wrap64 (wrap64 (Int.tdiv (wrap64 ((l0.length : Int) + 2)) 3) * 4) := by
      rw [bs_size, e3_len, hl, w64 (z := (l0.length : Int) + 2) (by omega) (by omega), Int.tdiv_eq_ediv_of_nonneg (by omega), w64 (z := ((l0.length : Int) + 2) / 3) (by omega) (by omega), w64 (by omega) (by omega)]
      omega
    rw [if_pos hs]
    obtain ⟨n, hn, hns, hn3⟩ : ∃ n : Nat, mn (wrap64 (3 * (wrap64 a1))) (wrap64 ((wrap64 ((l0.length : Int) / 3)) * 3)) = n ∧ n ≤ l0.length ∧ n % 3 = 0 := by
      rw [w64 (z := a1) (by omega) (by omega), w64 (z := 3 * a1) (by omega) (by omega), w64 (z := (l0.length : Int) / 3) (by omega) (by omega), w64 (z := (l0.length : Int) / 3 * 3) (by omega) (by omega)]
      unfold mn
      split
      · exact ⟨l0.length / 3 * 3, by omega, by omega, by omega⟩
      · exact ⟨3 * a1.toNat, by omega, by omega, by omega⟩
    rw [hn]
    have hbt : okB (l0.take n) = true := okB_of fun x hx => okB_mem hb x (List.mem_of_mem_take hx)
    have hbd : okB (l0.drop n) = true := okB_of fun x hx => okB_mem hb x (List.mem_of_mem_drop hx)
    rw [Int.toNat_natCast]
    rw [if_pos (by omega), if_pos (by omega), benc _ hbt (by simp; omega), Option.bind_some, benc _ hbd (by simp; omega), Option.bind_some]
    have ht : toB (l0.take n) = (toB l0).take n := by simp [toB, List.map_take]
    have hd : toB (l0.drop n) = (toB l0).drop n := by simp [toB, List.map_drop]
    have happ : e3 (toB l0) = e3 ((toB l0).take n) ++ e3 ((toB l0).drop n) := by
      rw [← e3_append _ _ (by rw [List.length_take]; omega), List.take_append_drop]
    have hsz : (e3 ((toB l0).take n)).length + (e3 ((toB l0).drop n)).length = (e3 (toB l0)).length := by rw [happ, List.length_append]
    have he := e3_len (toB l0)
    rw [if_pos (by rw [bs_size, bs_size, ht, hd]; omega), ht, hd, Option.some.injEq, beq_iff_eq, bs_toList, Lib.toList_data, list_append, bs_list, bs_list]
    exact happ
end Go.Proofs.YtlhpncpihbpkoaaDoor.X
