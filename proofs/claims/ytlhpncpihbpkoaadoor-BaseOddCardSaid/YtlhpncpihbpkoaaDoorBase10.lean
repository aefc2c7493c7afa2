/- The plain layer of base64: bits set one by one, as the reference reads, are the bytes of the letters' numbers. No program in sight; no conditions. -/
import Derived.Test.YtlhpncpihbpkoaaDoorBase0
namespace Go.Proofs.YtlhpncpihbpkoaaDoor

/-- The bit number p of sixes of bits. -/
def sixL (v : List Nat) (p : Nat) : Nat := v.getD (p / 6) 0 / 2 ^ (5 - p % 6) % 2
/-- The byte number j when the first P bits are set. -/
def valF (f : Nat → Nat) (j : Nat) : Nat → Nat
  | 0 => 0
  | P + 1 => valF f j P + (if P / 8 = j then f P * 2 ^ (7 - P % 8) else 0)
theorem sixL_lt (v : List Nat) (p : Nat) : sixL v p < 2 := Nat.mod_lt _ (by decide)
theorem sixL_shift (a b c d : Nat) (r : List Nat) (p : Nat) : sixL (a :: b :: c :: d :: r) (24 + p) = sixL r p := by
  have e1 : (24 + p) / 6 = p / 6 + 4 := by omega
  have e2 : (24 + p) % 6 = p % 6 := by omega
  unfold sixL
  rw [e1, e2]
  rfl
theorem valF_early (f : Nat → Nat) (j : Nat) : ∀ P, P ≤ 8 * j → valF f j P = 0
  | 0, _ => rfl
  | P + 1, h => by rw [valF, valF_early f j P (by omega), if_neg (by omega)]
theorem valF_late (f : Nat → Nat) (j : Nat) : ∀ k, valF f j (8 * j + 8 + k) = valF f j (8 * j + 8)
  | 0 => rfl
  | k + 1 => by rw [← Nat.add_assoc, valF, valF_late f j k, if_neg (by omega), Nat.add_zero]
theorem valF_shift (f g : Nat → Nat) (h : ∀ p, f (24 + p) = g p) (j : Nat) : ∀ P, valF f (j + 3) (24 + P) = valF g j P
  | 0 => by rw [valF_early f (j + 3) _ (by omega)]; rfl
  | P + 1 => by
    rw [← Nat.add_assoc, valF, valF, valF_shift f g h j P, h]
    have e1 : (24 + P) / 8 = j + 3 ↔ P / 8 = j := by omega
    have e2 : (24 + P) % 8 = P % 8 := by omega
    rw [e2]
    by_cases hj : P / 8 = j
    · rw [if_pos hj, if_pos (e1.2 hj)]
    · rw [if_neg hj, if_neg (fun h => hj (e1.1 h))]
theorem valF_eight (f : Nat → Nat) (j : Nat) : valF f j (8 * j + 8) = f (8 * j) * 128 + f (8 * j + 1) * 64 + f (8 * j + 2) * 32 + f (8 * j + 3) * 16 + f (8 * j + 4) * 8 + f (8 * j + 5) * 4 + f (8 * j + 6) * 2 + f (8 * j + 7) := by
  have s : ∀ r, r < 8 → valF f j (8 * j + (r + 1)) = valF f j (8 * j + r) + f (8 * j + r) * 2 ^ (7 - r) := by
    intro r hr
    rw [← Nat.add_assoc, valF, if_pos (by omega), show (8 * j + r) % 8 = r by omega]
  have h0 := valF_early f j (8 * j) (Nat.le_refl _)
  have s0 := s 0 (by omega); have s1 := s 1 (by omega); have s2 := s 2 (by omega); have s3 := s 3 (by omega); have s4 := s 4 (by omega); have s5 := s 5 (by omega); have s6 := s 6 (by omega); have s7 := s 7 (by omega)
  simp only [Nat.add_zero, Nat.reduceAdd, Nat.reduceSub, Nat.reducePow] at s0 s1 s2 s3 s4 s5 s6 s7
  omega
theorem valF_step (f : Nat → Nat) (j r : Nat) (hr : r < 8) : valF f j (8 * j + (r + 1)) = valF f j (8 * j + r) + f (8 * j + r) * 2 ^ (7 - r) := by
  rw [← Nat.add_assoc, valF, if_pos (by omega), show (8 * j + r) % 8 = r by omega]
theorem valF_part (f : Nat → Nat) (hf : ∀ p, f p < 2) (j : Nat) : ∀ r, r < 8 → valF f j (8 * j + r) % 2 ^ (8 - r) = 0 ∧ valF f j (8 * j + r) < 256 := by
  have h0 := valF_early f j (8 * j) (Nat.le_refl _)
  have s0 := valF_step f j 0 (by omega); have s1 := valF_step f j 1 (by omega); have s2 := valF_step f j 2 (by omega); have s3 := valF_step f j 3 (by omega); have s4 := valF_step f j 4 (by omega); have s5 := valF_step f j 5 (by omega); have s6 := valF_step f j 6 (by omega)
  have f0 := hf (8 * j); have f1 := hf (8 * j + 1); have f2 := hf (8 * j + 2); have f3 := hf (8 * j + 3); have f4 := hf (8 * j + 4); have f5 := hf (8 * j + 5); have f6 := hf (8 * j + 6)
  simp only [Nat.add_zero, Nat.reduceAdd, Nat.reduceSub, Nat.reducePow] at s0 s1 s2 s3 s4 s5 s6
  intro r hr
  match r, hr with
  | 0, _ => exact ⟨by rw [Nat.add_zero, h0], by rw [Nat.add_zero, h0]; omega⟩
  | 1, _ => simp only [Nat.reduceSub, Nat.reducePow]; omega
  | 2, _ => simp only [Nat.reduceSub, Nat.reducePow]; omega
  | 3, _ => simp only [Nat.reduceSub, Nat.reducePow]; omega
  | 4, _ => simp only [Nat.reduceSub, Nat.reducePow]; omega
  | 5, _ => simp only [Nat.reduceSub, Nat.reducePow]; omega
  | 6, _ => simp only [Nat.reduceSub, Nat.reducePow]; omega
  | 7, _ => simp only [Nat.reduceSub, Nat.reducePow]; omega
/-- The bytes when the first P bits are set. -/
def outL (f : Nat → Nat) (m P : Nat) : List UInt8 := (List.range m).map fun j => UInt8.ofNat (valF f j P)
theorem outL_zero (f : Nat → Nat) (m : Nat) : outL f m 0 = List.replicate m 0 := by
  unfold outL
  apply List.ext_getElem (by simp)
  intro i h1 h2
  simp [valF]
theorem outL_same (f : Nat → Nat) (m P : Nat) (h : 8 * m ≤ P ∨ f P = 0) : outL f m (P + 1) = outL f m P := by
  unfold outL
  apply List.map_congr_left
  intro j hj
  have hjm := List.mem_range.1 hj
  rw [valF]
  rcases h with h | h
  · rw [if_neg (by omega), Nat.add_zero]
  · rw [h, Nat.zero_mul]; split <;> simp
theorem outL_set (f : Nat → Nat) (m P : Nat) (h : P < 8 * m) (hf : f P = 1) : outL f m (P + 1) = (outL f m P).set (P / 8) (UInt8.ofNat (valF f (P / 8) P + 2 ^ (7 - P % 8))) := by
  unfold outL
  apply List.ext_getElem (by simp)
  intro i h1 h2
  simp only [List.getElem_map, List.getElem_range, List.getElem_set]
  by_cases e : P / 8 = i
  · subst e
    rw [if_pos rfl, valF, if_pos rfl, hf, Nat.one_mul]
  · rw [if_neg e, valF, if_neg e, Nat.add_zero]
theorem outL_len (f : Nat → Nat) (m P : Nat) : (outL f m P).length = m := by simp [outL]
theorem outL_at (f : Nat → Nat) (m P j : Nat) (h : j < m) : (outL f m P)[j]? = some (UInt8.ofNat (valF f j P)) := by simp [outL, h]
theorem d4_at : ∀ (v : List Nat), (∀ n ∈ v, n < 64) → v.length % 4 ≠ 1 → ∀ j, j < 6 * v.length / 8 → (d4 v)[j]? = some (UInt8.ofNat (valF (sixL v) j (6 * v.length)))
  | a :: b :: c :: d :: r, hv, hm, 0, hj => by
    have ha := hv a (by simp); have hb := hv b (by simp)
    obtain ⟨k, hk⟩ : ∃ k, 6 * (a :: b :: c :: d :: r).length = 8 * 0 + 8 + k := ⟨6 * (a :: b :: c :: d :: r).length - 8, by simp only [List.length_cons]; omega⟩
    rw [hk, valF_late, valF_eight]
    simp only [d4, List.getElem?_cons_zero, List.getElem?_cons_succ]
    refine congrArg (fun n => some (UInt8.ofNat n)) ?_
    simp [sixL]
    omega
  | a :: b :: c :: d :: r, hv, hm, 1, hj => by
    have hb := hv b (by simp); have hc := hv c (by simp)
    obtain ⟨k, hk⟩ : ∃ k, 6 * (a :: b :: c :: d :: r).length = 8 * 1 + 8 + k := ⟨6 * (a :: b :: c :: d :: r).length - 16, by simp only [List.length_cons]; omega⟩
    rw [hk, valF_late, valF_eight]
    simp only [d4, List.getElem?_cons_zero, List.getElem?_cons_succ]
    refine congrArg (fun n => some (UInt8.ofNat n)) ?_
    simp [sixL]
    omega
  | a :: b :: c :: d :: r, hv, hm, 2, hj => by
    have hc := hv c (by simp); have hd := hv d (by simp)
    obtain ⟨k, hk⟩ : ∃ k, 6 * (a :: b :: c :: d :: r).length = 8 * 2 + 8 + k := ⟨6 * (a :: b :: c :: d :: r).length - 24, by simp only [List.length_cons]; omega⟩
    rw [hk, valF_late, valF_eight]
    simp only [d4, List.getElem?_cons_zero, List.getElem?_cons_succ]
    refine congrArg (fun n => some (UInt8.ofNat n)) ?_
    simp [sixL]
    omega
  | a :: b :: c :: d :: r, hv, hm, j + 3, hj => by
    have e : 6 * (a :: b :: c :: d :: r).length = 24 + 6 * r.length := by simp only [List.length_cons]; omega
    rw [e, valF_shift (sixL (a :: b :: c :: d :: r)) (sixL r) (fun p => sixL_shift a b c d r p)]
    simp only [d4, List.getElem?_cons_succ]
    exact d4_at r (fun n hn => hv n (by simp [hn])) (by simp only [List.length_cons] at hm; omega) j (by rw [e] at hj; omega)
  | [a, b, c], hv, hm, j, hj => by
    have ha := hv a (by simp); have hb := hv b (by simp); have hc := hv c (by simp)
    have hj2 : j = 0 ∨ j = 1 := by simp at hj; omega
    rcases hj2 with rfl | rfl
    · show _ = some (UInt8.ofNat (valF _ 0 (8 * 0 + 8 + 10)))
      rw [valF_late, valF_eight]
      simp only [d4, List.getElem?_cons_zero, List.getElem?_cons_succ]
      refine congrArg (fun n => some (UInt8.ofNat n)) ?_
      simp [sixL]
      omega
    · show _ = some (UInt8.ofNat (valF _ 1 (8 * 1 + 8 + 2)))
      rw [valF_late, valF_eight]
      simp only [d4, List.getElem?_cons_zero, List.getElem?_cons_succ]
      refine congrArg (fun n => some (UInt8.ofNat n)) ?_
      simp [sixL]
      omega
  | [a, b], hv, hm, j, hj => by
    have ha := hv a (by simp); have hb := hv b (by simp)
    have hj2 : j = 0 := by simp at hj; omega
    subst hj2
    show _ = some (UInt8.ofNat (valF _ 0 (8 * 0 + 8 + 4)))
    rw [valF_late, valF_eight]
    simp only [d4, List.getElem?_cons_zero, List.getElem?_cons_succ]
    refine congrArg (fun n => some (UInt8.ofNat n)) ?_
    simp [sixL]
    omega
  | [a], hv, hm, j, hj => by simp at hm
  | [], hv, hm, j, hj => by simp at hj
theorem d4_len : ∀ v : List Nat, v.length % 4 ≠ 1 → (d4 v).length = 6 * v.length / 8
  | a :: b :: c :: d :: r, h => by
    have := d4_len r (by simp only [List.length_cons] at h; omega)
    simp only [d4, List.length_cons, this]
    omega
  | [a, b, c], _ => by simp [d4]
  | [a, b], _ => by simp [d4]
  | [a], h => by simp at h
  | [], _ => by simp [d4]
theorem d4_out (v : List Nat) (hv : ∀ n ∈ v, n < 64) (hm : v.length % 4 ≠ 1) : outL (sixL v) (6 * v.length / 8) (6 * v.length) = d4 v := by
  apply List.ext_getElem?
  intro j
  by_cases hj : j < 6 * v.length / 8
  · rw [d4_at v hv hm j hj, outL_at _ _ _ _ hj]
  · rw [List.getElem?_eq_none (by rw [outL_len]; omega), List.getElem?_eq_none (by rw [d4_len v hm]; omega)]
end Go.Proofs.YtlhpncpihbpkoaaDoor
