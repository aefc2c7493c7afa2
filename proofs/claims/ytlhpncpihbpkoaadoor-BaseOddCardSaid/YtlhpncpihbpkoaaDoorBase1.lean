/- The plain layer of base64: what strings.Map leaves of a text, blanks dropped, answers as the text without its blanks. No program in sight; no conditions. -/
import Derived.Test.YtlhpncpihbpkoaaDoorBase0
namespace Go.Proofs.YtlhpncpihbpkoaaDoor
open Go.Lib

theorem decode_low (l : List UInt8) (h : (l.getD 0 0).toNat < 128) : decodeL l = ((l.getD 0 0).toNat, 1) := by
  rw [decodeL_N]
  unfold decodeN
  rw [if_pos h]
theorem decode_high (l : List UInt8) (h : 128 ≤ (l.getD 0 0).toNat) : 128 ≤ (decodeL l).1 ∧ (decodeL l).1 ≤ 1114111 := by
  rw [decodeL_N]
  have k0 := (l.getD 0 0).toNat_lt
  rcases decodeN_shape l.length (l.getD 0 0).toNat (l.getD 1 0).toNat (l.getD 2 0).toNat (l.getD 3 0).toNat with ⟨c, e⟩ | ⟨c1, c2, c3, cv, e⟩ | ⟨c1, c2, c3, c4, cv, cs, e⟩ | ⟨c1, c2, c3, c4, c5, cv, cw, e⟩ | e
  all_goals (rw [e]; dsimp only; omega)
theorem fB_high (x : Int) (h : 128 ≤ x) : fB x = x := by unfold fB; rw [if_neg (by omega)]
theorem encode_high (x : Int) (h : 128 ≤ x) : ∃ c ∈ encodeRune x, 128 ≤ c.toNat := by
  have go : ∀ (y : Int) (r : List Int), encodeRuneZ x = y :: r → 128 ≤ y → y < 256 → ∃ c ∈ encodeRune x, 128 ≤ c.toNat := by
    intro y r e h1 h2
    refine ⟨y.toNat.toUInt8, ?_, ?_⟩
    · unfold encodeRune; rw [e]; simp
    · have : y.toNat.toUInt8.toNat = y.toNat % 256 := by simp
      rw [this]
      omega
  have a : ¬ (0 ≤ x ∧ x ≤ 127) := by omega
  by_cases b : 128 ≤ x ∧ x ≤ 2047
  · exact go _ _ (encodeRuneZ_two b.1 b.2) (by omega) (by omega)
  by_cases c : (2048 ≤ x ∧ x < 55296) ∨ (57343 < x ∧ x ≤ 65535)
  · exact go _ _ (encodeRuneZ_three c) (by omega) (by omega)
  by_cases d : 65536 ≤ x ∧ x ≤ 1114111
  · exact go _ _ (encodeRuneZ_four d.1 d.2) (by omega) (by omega)
  · exact go _ _ (encodeRuneZ_bad (by omega)) (by omega) (by omega)

theorem map_low : ∀ l : List UInt8, (∀ c ∈ l, c.toNat < 128) → mapD fB l = l.filter fun c => !blankB c
  | [], _ => rfl
  | b :: r, h => by
    have hb := h b (by simp)
    rw [mapD_step fB _ (by simp), decode_low _ (by simpa using hb)]
    have ih := map_low r (fun c hc => h c (by simp [hc]))
    simp only [List.getD_cons_zero, List.drop_succ_cons, List.drop_zero, ih]
    by_cases hk : blankB b = true
    · have : fB (b.toNat : Int) = -1 := by
        unfold blankB at hk
        simp only [Bool.or_eq_true, beq_iff_eq] at hk
        rcases hk with (((rfl | rfl) | rfl) | rfl) | rfl <;> rfl
      rw [this, if_neg (by omega)]
      simp [hk]
    · have hk' : blankB b = false := by simpa using hk
      have hn : ∀ n : Nat, (n = 9 ∨ n = 10 ∨ n = 12 ∨ n = 13 ∨ n = 32) → ¬ b.toNat = n := by
        intro n hn e
        have eb : b = UInt8.ofNat n := by rw [← e]; simp
        rw [eb] at hk'
        rcases hn with rfl | rfl | rfl | rfl | rfl <;> exact absurd hk' (by decide)
      have : fB (b.toNat : Int) = (b.toNat : Int) := by
        unfold fB
        have h1 := hn 9 (by simp); have h2 := hn 10 (by simp); have h3 := hn 12 (by simp); have h4 := hn 13 (by simp); have h5 := hn 32 (by simp)
        rw [if_neg (by omega)]
      rw [this, if_pos (by omega)]
      have e1 : encodeRune (b.toNat : Int) = [b] := by
        unfold encodeRune
        rw [encodeRuneZ_one (by omega) (by omega)]
        simp
      rw [e1]
      simp [hk']
theorem map_high : ∀ (n : Nat) (l : List UInt8), l.length ≤ n → (∃ c ∈ l, 128 ≤ c.toNat) → ∃ c ∈ mapD fB l, 128 ≤ c.toNat
  | 0, l, hn, ⟨c, hc, _⟩ => by
    have : l = [] := List.eq_nil_of_length_eq_zero (by omega)
    subst this
    cases hc
  | n + 1, [], _, ⟨c, hc, _⟩ => by cases hc
  | n + 1, b :: r, hn, ⟨c, hc, hc1⟩ => by
    rw [mapD_step fB _ (by simp)]
    by_cases hb : b.toNat < 128
    · rw [decode_low _ (by simpa using hb)]
      simp only [List.getD_cons_zero, List.drop_succ_cons, List.drop_zero]
      have hr : c ∈ r := by
        rcases List.mem_cons.1 hc with rfl | h
        · omega
        · exact h
      obtain ⟨d, hd, hd1⟩ := map_high n r (by simpa using hn) ⟨c, hr, hc1⟩
      exact ⟨d, List.mem_append.2 (Or.inr hd), hd1⟩
    · have hh := decode_high (b :: r) (by simpa using Nat.le_of_not_lt hb)
      rw [fB_high _ (by omega), if_pos (by omega)]
      obtain ⟨d, hd, hd1⟩ := encode_high ((decodeL (b :: r)).1 : Int) (by omega)
      exact ⟨d, List.mem_append.2 (Or.inl hd), hd1⟩
theorem ne61 {c : UInt8} (h : 128 ≤ c.toNat) : c ≠ 61 := by
  rintro rfl
  exact absurd h (by decide)
/-- What the program reads, after its own way of dropping blanks, is what the text says. -/
theorem core_map (l : List UInt8) : core (strip (mapD fB l)) = dec l := by
  by_cases h : ∀ c ∈ l, c.toNat < 128
  · rw [map_low l h]; rfl
  · have hx : ∃ c ∈ l, 128 ≤ c.toNat := by
      by_cases hx : ∃ c ∈ l, 128 ≤ c.toNat
      · exact hx
      · exact absurd (fun c hc => Nat.lt_of_not_le fun hle => hx ⟨c, hc, hle⟩) h
    obtain ⟨d, hd, hd1⟩ := map_high l.length l (Nat.le_refl _) hx
    obtain ⟨c, hc, hc1⟩ := hx
    rw [core_none (mem_strip hd (ne61 hd1)) (num_high hd1), dec_odd hc (num_high hc1) (blank_high hc1) (ne61 hc1)]
theorem map_len (l : List UInt8) : (mapD fB l).length ≤ 4 * l.length := by
  have go : ∀ (n : Nat) (l : List UInt8), l.length ≤ n → (mapD fB l).length ≤ 4 * l.length := by
    intro n
    induction n with
    | zero =>
      intro l hn
      have : l = [] := List.eq_nil_of_length_eq_zero (by omega)
      subst this
      simp [mapD_nil]
    | succ n ih =>
      intro l hn
      by_cases hne : l = []
      · subst hne; simp [mapD_nil]
      · have hl : 0 < l.length := List.length_pos_iff.2 hne
        have hw := decodeL_width l
        rw [mapD_step fB l hne, List.length_append]
        have h1 := ih (l.drop (decodeL l).2) (by rw [List.length_drop]; omega)
        rw [List.length_drop] at h1
        have h2 : (if 0 ≤ fB (decodeL l).1 then encodeRune (fB (decodeL l).1) else []).length ≤ 4 := by
          split
          · unfold encodeRune; rw [List.length_map]; exact (encodeRuneZ_length _).2
          · simp
        omega
  exact go l.length l (Nat.le_refl _)
end Go.Proofs.YtlhpncpihbpkoaaDoor
