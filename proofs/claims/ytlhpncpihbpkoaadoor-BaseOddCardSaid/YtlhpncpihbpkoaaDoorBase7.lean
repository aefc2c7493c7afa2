/- The plain layer of base64: six bits at a time, as the reference writes, are the letters' numbers. No program in sight; no conditions. -/
import Derived.Test.YtlhpncpihbpkoaaDoorBase0
namespace Go.Proofs.YtlhpncpihbpkoaaDoor

/-- The bit number p of bytes, the greatest first; beyond them: 0. -/
def bitL (l : List UInt8) (p : Nat) : Nat := (l.getD (p / 8) 0).toNat / 2 ^ (7 - p % 8) % 2
/-- The number that the next k bits from p on write. -/
def bitsL (l : List UInt8) (p : Nat) : Nat → Nat
  | 0 => 0
  | k + 1 => 2 * bitsL l p k + bitL l (p + k)
theorem bitL_shift (a b c : UInt8) (r : List UInt8) (p : Nat) : bitL (a :: b :: c :: r) (24 + p) = bitL r p := by
  have e1 : (24 + p) / 8 = p / 8 + 3 := by omega
  have e2 : (24 + p) % 8 = p % 8 := by omega
  unfold bitL
  rw [e1, e2]
  rfl
theorem bitsL_shift (a b c : UInt8) (r : List UInt8) (p : Nat) : ∀ k, bitsL (a :: b :: c :: r) (24 + p) k = bitsL r p k
  | 0 => rfl
  | k + 1 => by rw [bitsL, bitsL, bitsL_shift a b c r p k, Nat.add_assoc, bitL_shift]
theorem bitsL_lt (l : List UInt8) (p : Nat) : ∀ k, bitsL l p k < 2 ^ k
  | 0 => by simp [bitsL]
  | k + 1 => by
    have := bitsL_lt l p k
    have h : bitL l (p + k) < 2 := Nat.mod_lt _ (by decide)
    rw [bitsL, Nat.pow_succ]
    omega
theorem n3_bits : ∀ (l : List UInt8) (i : Nat), i < (n3 l).length → (n3 l)[i]? = some (bitsL l (6 * i) 6)
  | a :: b :: c :: r, 0, _ => by
    have := a.toNat_lt
    simp only [n3, List.getElem?_cons_zero, Option.some.injEq, bitsL, bitL]
    simp
    omega
  | a :: b :: c :: r, 1, _ => by
    have := a.toNat_lt; have := b.toNat_lt
    simp only [n3, List.getElem?_cons_succ, List.getElem?_cons_zero, Option.some.injEq, bitsL, bitL]
    simp
    omega
  | a :: b :: c :: r, 2, _ => by
    have := b.toNat_lt; have := c.toNat_lt
    simp only [n3, List.getElem?_cons_succ, List.getElem?_cons_zero, Option.some.injEq, bitsL, bitL]
    simp
    omega
  | a :: b :: c :: r, 3, _ => by
    have := c.toNat_lt
    simp only [n3, List.getElem?_cons_succ, List.getElem?_cons_zero, Option.some.injEq, bitsL, bitL]
    simp
    omega
  | a :: b :: c :: r, i + 4, h => by
    have h2 : i < (n3 r).length := by simpa [n3] using h
    simp only [n3, List.getElem?_cons_succ]
    rw [n3_bits r i h2, show 6 * (i + 4) = 24 + 6 * i by omega, bitsL_shift]
  | [a, b], 0, _ => by
    have := a.toNat_lt
    simp only [n3, List.getElem?_cons_zero, Option.some.injEq, bitsL, bitL]
    simp
    omega
  | [a, b], 1, _ => by
    have := a.toNat_lt; have := b.toNat_lt
    simp only [n3, List.getElem?_cons_succ, List.getElem?_cons_zero, Option.some.injEq, bitsL, bitL]
    simp
    omega
  | [a, b], 2, _ => by
    have := b.toNat_lt
    simp only [n3, List.getElem?_cons_succ, List.getElem?_cons_zero, Option.some.injEq, bitsL, bitL]
    simp
    omega
  | [a, b], i + 3, h => by simp [n3] at h; omega
  | [a], 0, _ => by
    have := a.toNat_lt
    simp only [n3, List.getElem?_cons_zero, Option.some.injEq, bitsL, bitL]
    simp
    omega
  | [a], 1, _ => by
    have := a.toNat_lt
    simp only [n3, List.getElem?_cons_succ, List.getElem?_cons_zero, Option.some.injEq, bitsL, bitL]
    simp
    omega
  | [a], i + 2, h => by simp [n3] at h; omega
  | [], i, h => by simp [n3] at h
theorem n3_len (l : List UInt8) : (n3 l).length = (8 * l.length + 5) / 6 := by
  have h := u3_len l
  rw [u3_n3, List.length_map] at h
  omega
theorem u3_take (l : List UInt8) (i : Nat) (h : i < (n3 l).length) : ((n3 l).take (i + 1)).map letB = ((n3 l).take i).map letB ++ [letB (bitsL l (6 * i) 6)] := by
  rw [List.take_add_one, n3_bits l i h]
  simp
theorem padL_rep (l : List UInt8) : padL l = List.replicate (if l.length % 3 = 0 then 0 else 3 - l.length % 3) 61 := by
  unfold padL
  by_cases h0 : l.length % 3 = 0
  · rw [if_pos h0, if_pos h0]; rfl
  · rw [if_neg h0, if_neg h0]
    by_cases h1 : l.length % 3 = 1
    · rw [if_pos h1, h1]; rfl
    · have h2 : l.length % 3 = 2 := by omega
      rw [if_neg h1, h2]; rfl
end Go.Proofs.YtlhpncpihbpkoaaDoor
