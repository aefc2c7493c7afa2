/- BaseOdd over lists and numbers alone: the printed function answers true at every input of its kinds. No other conditions. -/
import Derived.Test.YtlhpncpihbpkoaaDoorPure3
import Derived.Test.YtlhpncpihbpkoaaDoorX11
namespace Go.Proofs.YtlhpncpihbpkoaaDoor.X
open Go.RowKit Go.Proofs.YtlhpncpihbpkoaaDoorW.PrintWords Go.Proofs.YtlhpncpihbpkoaaDoorW.PrintLast Go.Proofs.YtlhpncpihbpkoaaDoorW.PrintMore

theorem BaseOdd_pure (l0 : List Int) (a1 a2 : Int) (hb : okB l0 = true) (h1 : 0 ≤ a1 ∧ a1 ≤ 255) (h2 : 0 ≤ a2 ∧ a2 ≤ 255) : ∃ k, carryalllaw03_BaseOdd.f k l0 a1 a2 = some true := by
  refine ⟨2, ?_⟩
  unfold carryalllaw03_BaseOdd.f Ext.law03_awake.f
  simp only [Option.bind_some, if_true]
  by_cases hz : (l0.length : Int) > 100
  · rw [decide_eq_true hz]
    simp only [carryalllaw03_BaseOdd.j0, if_true, Ext.law03_awake.f, Option.bind_some]
  · rw [decide_eq_false hz]
    simp only [carryalllaw03_BaseOdd.j0, Bool.false_eq_true, if_false]
    obtain ⟨c, hc⟩ : ∃ c : UInt8, a2 = (c.toNat : Int) := ⟨UInt8.ofNat a2.toNat, by simp; omega⟩
    have e2 : (strOfNums [a2, 65]) = bs [c, 65] := by
      rw [strOfNums_toB, hc]
      show bs [UInt8.ofNat (c.toNat : Int).toNat, UInt8.ofNat (65 : Int).toNat] = _
      simp
    rw [e2, rdec _ (by rw [bs_size]; simp), bs_list]
    rw [Option.bind_some]
    by_cases hd : (dec [c, 65]).isSome = true
    · rw [if_pos hd]; simp [carryalllaw03_BaseOdd.j1]
    rw [if_neg hd]
    by_cases b1 : a2 = 32
    · rw [if_pos b1]; simp [carryalllaw03_BaseOdd.j1]
    rw [if_neg b1]
    by_cases b2 : a2 = 9
    · rw [if_pos b2]; simp [carryalllaw03_BaseOdd.j1]
    rw [if_neg b2]
    by_cases b3 : a2 = 10
    · rw [if_pos b3]; simp [carryalllaw03_BaseOdd.j1]
    rw [if_neg b3]
    by_cases b4 : a2 = 12
    · rw [if_pos b4]; simp [carryalllaw03_BaseOdd.j1]
    rw [if_neg b4]
    by_cases b5 : a2 = 13
    · rw [if_pos b5]; simp [carryalllaw03_BaseOdd.j1]
    rw [if_neg b5]
    by_cases b6 : a2 = 61
    · rw [beq_iff_eq.2 b6]; simp [carryalllaw03_BaseOdd.j1]
    rw [beq_eq_false_iff_ne.2 b6]
    have hne : ∀ n : Nat, a2 ≠ n → n < 256 → c ≠ UInt8.ofNat n := by
      intro n hn hn2 e
      apply hn
      rw [hc, e]
      simp
      omega
    have hbl : blankB c = false := by
      unfold blankB
      rw [Bool.eq_false_iff]
      intro e
      simp only [Bool.or_eq_true, beq_iff_eq] at e
      rcases e with (((e | e) | e) | e) | e
      · exact hne 9 b2 (by omega) e
      · exact hne 10 b3 (by omega) e
      · exact hne 12 b4 (by omega) e
      · exact hne 13 b5 (by omega) e
      · exact hne 32 b1 (by omega) e
    have h61 : c ≠ 61 := hne 61 b6 (by omega)
    have hnum : numB c = none := by
      rw [dec_two c hbl] at hd
      cases h : numB c with
      | none => rfl
      | some n => rw [h] at hd; simp at hd
    have hl : (toB l0).length = l0.length := toB_len l0
    have he := e3_len (toB l0)
    simp only [carryalllaw03_BaseOdd.j1, Bool.false_eq_true, if_false]
    rw [benc l0 hb (by omega)]
    rw [Option.bind_some]
    obtain ⟨t, ht, htl⟩ : ∃ t, t = bs (e3 (toB l0)) ∧ t.size ≤ 1000 := ⟨_, rfl, by rw [bs_size]; omega⟩
    rw [← ht]
    rw [w64 (z := (t.size : Int) + 1) (by omega) (by omega), w64 (z := a1) (by omega) (by omega), if_neg (by omega)]
    obtain ⟨n, hn, hns⟩ : ∃ n : Nat, Int.tmod a1 ((t.size : Int) + 1) = n ∧ n ≤ t.size := by
      have e : Int.tmod a1 ((t.size : Int) + 1) = a1 % ((t.size : Int) + 1) := Int.tmod_eq_emod_of_nonneg h1.1
      have p := Int.emod_nonneg a1 (show (t.size : Int) + 1 ≠ 0 by omega)
      have q := Int.emod_lt_of_pos a1 (show (0 : Int) < (t.size : Int) + 1 by omega)
      exact ⟨(a1 % ((t.size : Int) + 1)).toNat, by rw [e]; omega, by omega⟩
    rw [hn, if_pos (by omega), if_pos (by omega), Option.bind_some, Int.toNat_natCast]
    have e1 : strOfNums [a2] = bs [c] := by
      rw [strOfNums_toB, hc]
      show bs [UInt8.ofNat (c.toNat : Int).toNat] = _
      simp
    rw [e1]
    have hsz := cut_size t n hns [c]
    have hs2 : (t.extract 0 n ++ bs [c]).size + (t.extract n t.size).size = t.size + 1 := by
      rw [← ByteArray.size_append]
      exact hsz
    have hs1 : (t.extract 0 n).size + (bs [c]).size = (t.extract 0 n ++ bs [c]).size := by rw [ByteArray.size_append]
    rw [if_pos (by omega), if_pos (by omega), bdec _ (by rw [hsz]; simp; omega), cut_list, dec_odd (c := c) (by simp) hnum hbl h61]
    simp [ofB]
end Go.Proofs.YtlhpncpihbpkoaaDoor.X
