/- The reference's letter and number, walked: they answer 'letB' and 'numB'. Condition: the number is below 64. -/
import Derived.Test.YtlhpncpihbpkoaaDoorBase0
import Derived.Test.YtlhpncpihbpkoaaDoorRows
import Derived.WalkKit
import Derived.Lib.Hide
import Derived.Deep.LoopGhost
import Derived.Deep.DeepMust
namespace Go.Proofs.YtlhpncpihbpkoaaDoor
open Go.RowKit

def numZ (c : UInt8) : Int := match numB c with | some n => (n : Int) | none => -1
theorem numZ_some {c : UInt8} {n : Nat} (h : numB c = some n) : numZ c = n := by unfold numZ; rw [h]
theorem numZ_none {c : UInt8} (h : numB c = none) : numZ c = -1 := by unfold numZ; rw [h]
theorem letter_form : ∀ n : Fin 64, (letB n.val).toNat = (if n.val < 26 then 65 + n.val else if n.val < 52 then 71 + n.val else if n.val < 62 then n.val - 4 else if n.val = 62 then 43 else 47) := by decide

set_option maxRecDepth 100000 in
theorem rletter_any (n : Nat) (h : n < 64) (w : World) :
    Calls Tryd.prog 39 #[.int .i64 n] w fun e w' => e = .returned (.int .u8 (letB n).toNat) ∧ w' = w := by
  have hf := letter_form ⟨n, h⟩
  simp only at hf
  have HF := Lib.hid hf
  clear hf
  by_cases h1 : n < 26
  · have i1 : (n : Int) < 26 := by omega
    go_enter Tryd.func39, Tryd.ntmps39
    go_wp2
    go_ret
    have e := HF.out
    rw [if_pos h1] at e
    exact ⟨congrArg (fun z => Ending.returned (Value.int .u8 z)) (by rw [e]; omega), rfl⟩
  have i1 : ¬ (n : Int) < 26 := by omega
  by_cases h2 : n < 52
  · have i2 : (n : Int) < 52 := by omega
    go_enter Tryd.func39, Tryd.ntmps39
    go_wp2
    go_ret
    have e := HF.out
    rw [if_neg h1] at e
    rw [if_pos h2] at e
    exact ⟨congrArg (fun z => Ending.returned (Value.int .u8 z)) (by rw [e]; omega), rfl⟩
  have i2 : ¬ (n : Int) < 52 := by omega
  by_cases h3 : n < 62
  · have i3 : (n : Int) < 62 := by omega
    go_enter Tryd.func39, Tryd.ntmps39
    go_wp2
    go_ret
    have e := HF.out
    rw [if_neg h1] at e
    rw [if_neg h2] at e
    rw [if_pos h3] at e
    exact ⟨congrArg (fun z => Ending.returned (Value.int .u8 z)) (by rw [e]; omega), rfl⟩
  have i3 : ¬ (n : Int) < 62 := by omega
  by_cases h4 : n = 62
  · have i4 : ((n : Int) == 62) = true := by rw [beq_iff_eq]; omega
    have i5 : (n : Int) = 62 := by omega
    go_enter Tryd.func39, Tryd.ntmps39
    go_wp2
    go_ret
    have e := HF.out
    rw [if_neg h1] at e
    rw [if_neg h2] at e
    rw [if_neg h3] at e
    rw [if_pos h4] at e
    exact ⟨congrArg (fun z => Ending.returned (Value.int .u8 z)) (by subst h4; rw [e]; rfl), rfl⟩
  · have i4 : ((n : Int) == 62) = false := by rw [beq_eq_false_iff_ne]; omega
    have i5 : ¬ (n : Int) = 62 := by omega
    go_enter Tryd.func39, Tryd.ntmps39
    go_wp2
    go_ret
    have e := HF.out
    rw [if_neg h1] at e
    rw [if_neg h2] at e
    rw [if_neg h3] at e
    rw [if_neg h4] at e
    exact ⟨congrArg (fun z => Ending.returned (Value.int .u8 z)) (by rw [e]; omega), rfl⟩

set_option maxRecDepth 100000 in
theorem rnumber_any (c : UInt8) (w : World) :
    Calls Tryd.prog 40 #[.int .u8 c.toNat] w fun e w' => e = .returned (.int .i64 (numZ c)) ∧ w' = w := by
  go_enter Tryd.func40, Tryd.ntmps40
  go_wp2
  go_loopg [4] 64 (fun gk s4 wx => ∃ k : Nat, s4 = .int .i64 k ∧ wx = w ∧ k + gk = 64 ∧ Hid (∀ j, j < k → letB j ≠ c))
  case atStart => exact ⟨0, rfl, rfl, rfl, Lib.hid (fun j hj => absurd hj (by omega))⟩
  case round =>
    obtain ⟨k, rfl, rfl, hk, HJ⟩ := hrel
    by_cases hlt : k < 64
    · obtain ⟨g2, rfl⟩ : ∃ g2, gk = g2 + 1 := ⟨gk - 1, by omega⟩
      have i1 : (k : Int) < 64 := by omega
      by_cases hc : letB k = c
      · have hb : (((letB k).toNat : Int) == (c.toNat : Int)) = true := by rw [hc]; simp
        have hn : numB c = some k := by rw [← hc]; exact num_let k hlt
        have HN := Lib.hid hn
        clear hn hc
        go_wp2_with (go_at_call 39; refine (rletter_any k hlt _).mono ?_; rintro e w2 ⟨rfl, rfl⟩)
        go_ret
        exact ⟨by rw [numZ_some HN.out]; rfl, rfl⟩
      · have hne : (letB k).toNat ≠ c.toNat := fun e => hc (UInt8.toNat_inj.1 e)
        have hb : (((letB k).toNat : Int) == (c.toNat : Int)) = false := by rw [beq_eq_false_iff_ne]; omega
        have hb2 : ¬ ((letB k).toNat : Int) = (c.toNat : Int) := by omega
        have HC := Lib.hid hc
        clear hc hne
        go_wp2_with (go_at_call 39; refine (rletter_any k hlt _).mono ?_; rintro e w2 ⟨rfl, rfl⟩)
        go_roundg g2
        case measure => omega
        case rel =>
          refine ⟨k + 1, by go_num, rfl, by omega, Lib.hid (fun j hj => ?_)⟩
          by_cases e : j = k
          · rw [e]; exact HC.out
          · exact HJ.out j (by omega)
    · obtain rfl : k = 64 := by omega
      have hn : numB c = none := by
        cases h : numB c with
        | none => rfl
        | some n => exact absurd (num_some h).2 (HJ.out n (num_some h).1)
      have HN := Lib.hid hn
      clear hn
      go_wp2
      go_ret
      exact ⟨by rw [numZ_none HN.out]; rfl, rfl⟩
end Go.Proofs.YtlhpncpihbpkoaaDoor
