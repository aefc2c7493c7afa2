/- BaseBlanks over lists and numbers alone: the printed function answers true at every input of its kinds. No other conditions. -/
import Derived.Test.YtlhpncpihbpkoaaDoorPure3
import Derived.Test.YtlhpncpihbpkoaaDoorX9
namespace Go.Proofs.YtlhpncpihbpkoaaDoor.X
open Go.RowKit Go.Proofs.YtlhpncpihbpkoaaDoorW.PrintWords Go.Proofs.YtlhpncpihbpkoaaDoorW.PrintLast Go.Proofs.YtlhpncpihbpkoaaDoorW.PrintMore

theorem BaseBlanks_pure (a0 : ByteArray) (a1 a2 : Int) (h1 : 0 ≤ a1 ∧ a1 ≤ 65535) (h2 : 0 ≤ a2 ∧ a2 ≤ 255) : ∃ k, carryalllaw03_BaseBlanks.f k a0 a1 a2 = some true := by
  refine ⟨1, ?_⟩
  unfold carryalllaw03_BaseBlanks.f Ext.law03_awake.f
  simp only [Option.bind_some, if_true]
  by_cases hz : (a0.size : Int) > 400
  · rw [decide_eq_true hz]
    simp only [carryalllaw03_BaseBlanks.j0, if_true, Ext.law03_awake.f, Option.bind_some]
  · rw [decide_eq_false hz]
    simp only [carryalllaw03_BaseBlanks.j0, Bool.false_eq_true, if_false]
    rw [w64 (z := (a0.size : Int) + 1) (by omega) (by omega), w64 (z := a1) (by omega) (by omega), if_neg (by omega), bdec a0 (by omega)]
    obtain ⟨n, hn, hns⟩ : ∃ n : Nat, Int.tmod a1 ((a0.size : Int) + 1) = n ∧ n ≤ a0.size := by
      have e : Int.tmod a1 ((a0.size : Int) + 1) = a1 % ((a0.size : Int) + 1) := Int.tmod_eq_emod_of_nonneg h1.1
      have p := Int.emod_nonneg a1 (show (a0.size : Int) + 1 ≠ 0 by omega)
      have q := Int.emod_lt_of_pos a1 (show (0 : Int) < (a0.size : Int) + 1 by omega)
      exact ⟨(a1 % ((a0.size : Int) + 1)).toNat, by rw [e]; omega, by omega⟩
    rw [hn]
    obtain ⟨i, hi, hi0, hi5⟩ : ∃ i : Int, Int.tmod a2 5 = i ∧ 0 ≤ i ∧ i < 5 := ⟨a2 % 5, Int.tmod_eq_emod_of_nonneg h2.1, by omega, by omega⟩
    rw [hi]
    obtain ⟨c, hc, hrd⟩ := blanks_at [] i hi0 hi5
    simp only [Option.bind_some]
    rw [if_pos (by omega), if_pos (by omega), if_pos hi0, if_pos (by simpa using hi5), hrd]
    simp only [Int.toNat_natCast]
    have hsz := cut_size a0 n hns [c]
    have hs2 : (a0.extract 0 n ++ bs [c]).size + (a0.extract n a0.size).size = a0.size + 1 := by
      rw [← ByteArray.size_append]
      exact hsz
    have hs1 : (a0.extract 0 n).size + (bs [c]).size = (a0.extract 0 n ++ bs [c]).size := by rw [ByteArray.size_append]
    rw [if_pos (by omega), if_pos (by omega), bdec _ (by rw [hsz]; simp; omega), cut_list, dec_blank _ _ _ hc, List.take_append_drop]
    simp
end Go.Proofs.YtlhpncpihbpkoaaDoor.X
