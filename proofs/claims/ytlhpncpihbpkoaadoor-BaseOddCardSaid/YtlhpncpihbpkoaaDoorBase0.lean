/- The plain layer of base64, forgiving: lists of bytes only, no program in sight. No conditions. -/
import Derived.Lib.MapLaws
namespace Go.Proofs.YtlhpncpihbpkoaaDoor

/-- The sixty-four letters. -/
def letters : List UInt8 := [65, 66, 67, 68, 69, 70, 71, 72, 73, 74, 75, 76, 77, 78, 79, 80, 81, 82, 83, 84, 85, 86, 87, 88, 89, 90, 97, 98, 99, 100, 101, 102, 103, 104, 105, 106, 107, 108, 109, 110, 111, 112, 113, 114, 115, 116, 117, 118, 119, 120, 121, 122, 48, 49, 50, 51, 52, 53, 54, 55, 56, 57, 43, 47]
def letB (n : Nat) : UInt8 := letters.getD n 0
/-- A letter's number. -/
def numB (c : UInt8) : Option Nat :=
  if 65 ≤ c.toNat ∧ c.toNat ≤ 90 then some (c.toNat - 65) else if 97 ≤ c.toNat ∧ c.toNat ≤ 122 then some (c.toNat - 71) else if 48 ≤ c.toNat ∧ c.toNat ≤ 57 then some (c.toNat + 4) else if c.toNat = 43 then some 62 else if c.toNat = 47 then some 63 else none
def blankB (c : UInt8) : Bool := c == 9 || c == 10 || c == 12 || c == 13 || c == 32

theorem num_let : ∀ n, n < 64 → numB (letB n) = some n := by decide
theorem blank_let : ∀ n, n < 64 → blankB (letB n) = false := by decide
theorem let_ne : ∀ n, n < 64 → letB n ≠ 61 := by decide
theorem num_all : ∀ x : Fin 256, (match numB (UInt8.ofNat x.val) with | some n => decide (n < 64) && letB n == UInt8.ofNat x.val | none => true) = true := by decide +kernel
theorem num_some {c : UInt8} {n : Nat} (h : numB c = some n) : n < 64 ∧ letB n = c := by
  have := num_all ⟨c.toNat, c.toNat_lt⟩
  simp only [UInt8.ofNat_toNat, h] at this
  simpa using this
theorem num_blank {c : UInt8} (h : blankB c = true) : numB c = none := by
  unfold blankB at h
  simp only [Bool.or_eq_true, beq_iff_eq] at h
  rcases h with (((rfl | rfl) | rfl) | rfl) | rfl <;> rfl
theorem num_high {c : UInt8} (h : 128 ≤ c.toNat) : numB c = none := by
  unfold numB
  repeat (rw [if_neg (by omega)])
theorem blank_high {c : UInt8} (h : 128 ≤ c.toNat) : blankB c = false := by
  unfold blankB
  rw [Bool.eq_false_iff]
  intro e
  simp only [Bool.or_eq_true, beq_iff_eq] at e
  rcases e with (((rfl | rfl) | rfl) | rfl) | rfl <;> exact absurd h (by decide)

/-- What may stand at the end is taken off. -/
def strip (l : List UInt8) : List UInt8 :=
  if l.length % 4 = 0 ∧ l.getLast? = some 61 then (if l.dropLast.getLast? = some 61 then l.dropLast.dropLast else l.dropLast) else l
/-- The bytes of sixes of bits. -/
def d4 : List Nat → List UInt8
  | a :: b :: c :: d :: r => UInt8.ofNat (a * 4 + b / 16) :: UInt8.ofNat (b % 16 * 16 + c / 4) :: UInt8.ofNat (c % 4 * 64 + d) :: d4 r
  | [a, b, c] => [UInt8.ofNat (a * 4 + b / 16), UInt8.ofNat (b % 16 * 16 + c / 4)]
  | [a, b] => [UInt8.ofNat (a * 4 + b / 16)]
  | _ => []
/-- The letters of bytes. -/
def e3 : List UInt8 → List UInt8
  | a :: b :: c :: r => letB (a.toNat / 4) :: letB (a.toNat % 4 * 16 + b.toNat / 16) :: letB (b.toNat % 16 * 4 + c.toNat / 64) :: letB (c.toNat % 64) :: e3 r
  | [a, b] => [letB (a.toNat / 4), letB (a.toNat % 4 * 16 + b.toNat / 16), letB (b.toNat % 16 * 4), 61]
  | [a] => [letB (a.toNat / 4), letB (a.toNat % 4 * 16), 61, 61]
  | [] => []
/-- .. without what stands at the end. -/
def u3 : List UInt8 → List UInt8
  | a :: b :: c :: r => letB (a.toNat / 4) :: letB (a.toNat % 4 * 16 + b.toNat / 16) :: letB (b.toNat % 16 * 4 + c.toNat / 64) :: letB (c.toNat % 64) :: u3 r
  | [a, b] => [letB (a.toNat / 4), letB (a.toNat % 4 * 16 + b.toNat / 16), letB (b.toNat % 16 * 4)]
  | [a] => [letB (a.toNat / 4), letB (a.toNat % 4 * 16)]
  | [] => []
def core (l : List UInt8) : Option (List UInt8) := if l.length % 4 = 1 then none else (l.mapM numB).map d4
def dec (l : List UInt8) : Option (List UInt8) := core (strip (l.filter fun c => !blankB c))

theorem mapM_none {l : List UInt8} {c : UInt8} (hm : c ∈ l) (hc : numB c = none) : l.mapM numB = none := by
  induction l with
  | nil => cases hm
  | cons a r ih =>
    rw [List.mapM_cons]
    rcases List.mem_cons.1 hm with rfl | hm
    · rw [hc]; rfl
    · rw [ih hm]; cases numB a <;> rfl
theorem core_none {l : List UInt8} {c : UInt8} (hm : c ∈ l) (hc : numB c = none) : core l = none := by
  unfold core
  split
  · rfl
  · rw [mapM_none hm hc]; rfl
theorem mem_dropLast {l : List UInt8} {c d : UInt8} (hm : c ∈ l) (hl : l.getLast? = some d) (hne : c ≠ d) : c ∈ l.dropLast := by
  have hne0 : l ≠ [] := by intro e; subst e; cases hm
  rw [← List.dropLast_concat_getLast hne0] at hm
  rcases List.mem_append.1 hm with h | h
  · exact h
  · exfalso
    rw [List.getLast?_eq_some_getLast hne0] at hl
    have e := Option.some.inj hl
    rw [e] at h
    exact hne (by simpa using h)
theorem mem_strip {l : List UInt8} {c : UInt8} (hm : c ∈ l) (hc : c ≠ 61) : c ∈ strip l := by
  unfold strip
  split
  · rename_i h
    have h1 := mem_dropLast hm h.2 hc
    split
    · rename_i h2
      exact mem_dropLast h1 h2 hc
    · exact h1
  · exact hm
/-- A byte that is neither a letter nor a blank nor = spoils the text. -/
theorem dec_odd {l : List UInt8} {c : UInt8} (hm : c ∈ l) (hc : numB c = none) (hb : blankB c = false) (h61 : c ≠ 61) : dec l = none :=
  core_none (mem_strip (List.mem_filter.2 ⟨hm, by rw [hb]; rfl⟩) h61) hc
theorem dec_blank (a b : List UInt8) (c : UInt8) (hc : blankB c = true) : dec (a ++ [c] ++ b) = dec (a ++ b) := by
  unfold dec
  simp [hc]

/-! ### Written and read again -/
theorem byte_back (a b : Nat) (ha : a < 256) : UInt8.ofNat a = UInt8.ofNat b ↔ a = b % 256 := by
  constructor
  · intro h
    have := congrArg UInt8.toNat h
    simp at this
    omega
  · intro h
    apply UInt8.toNat_inj.1
    simp
    omega
theorem ofNat_eq {a : Nat} {c : UInt8} (h : a = c.toNat) : UInt8.ofNat a = c := by subst h; simp
def n3 : List UInt8 → List Nat
  | a :: b :: c :: r => a.toNat / 4 :: (a.toNat % 4 * 16 + b.toNat / 16) :: (b.toNat % 16 * 4 + c.toNat / 64) :: c.toNat % 64 :: n3 r
  | [a, b] => [a.toNat / 4, a.toNat % 4 * 16 + b.toNat / 16, b.toNat % 16 * 4]
  | [a] => [a.toNat / 4, a.toNat % 4 * 16]
  | [] => []
theorem n3_lt : ∀ l : List UInt8, ∀ n ∈ n3 l, n < 64
  | a :: b :: c :: r, n, h => by
    have := a.toNat_lt; have := b.toNat_lt; have := c.toNat_lt
    simp only [n3, List.mem_cons] at h
    rcases h with rfl | rfl | rfl | rfl | h
    · omega
    · omega
    · omega
    · omega
    · exact n3_lt r n h
  | [a, b], n, h => by
    have := a.toNat_lt; have := b.toNat_lt
    simp only [n3, List.mem_cons, List.not_mem_nil, or_false] at h
    rcases h with rfl | rfl | rfl <;> omega
  | [a], n, h => by
    have := a.toNat_lt
    simp only [n3, List.mem_cons, List.not_mem_nil, or_false] at h
    rcases h with rfl | rfl <;> omega
  | [], n, h => by cases h
theorem u3_n3 : ∀ l : List UInt8, u3 l = (n3 l).map letB
  | a :: b :: c :: r => by simp [u3, n3, u3_n3 r]
  | [a, b] => rfl
  | [a] => rfl
  | [] => rfl
theorem d4_n3 : ∀ l : List UInt8, d4 (n3 l) = l
  | a :: b :: c :: r => by
    have := a.toNat_lt; have := b.toNat_lt; have := c.toNat_lt
    simp only [n3, d4, d4_n3 r]
    rw [ofNat_eq (c := a) (by omega), ofNat_eq (c := b) (by omega), ofNat_eq (c := c) (by omega)]
  | [a, b] => by
    have := a.toNat_lt; have := b.toNat_lt
    simp only [n3, d4]
    rw [ofNat_eq (c := a) (by omega), ofNat_eq (c := b) (by omega)]
  | [a] => by
    have := a.toNat_lt
    simp only [n3, d4]
    rw [ofNat_eq (c := a) (by omega)]
  | [] => rfl
theorem mapM_let : ∀ l : List Nat, (∀ n ∈ l, n < 64) → (l.map letB).mapM numB = some l
  | [], _ => rfl
  | a :: r, h => by
    rw [List.map_cons, List.mapM_cons, num_let a (h a (by simp)), mapM_let r (fun n hn => h n (by simp [hn]))]
    rfl
theorem u3_len : ∀ l : List UInt8, (u3 l).length = (4 * l.length + 2) / 3
  | a :: b :: c :: r => by simp only [u3, List.length_cons, u3_len r]; omega
  | [a, b] => by simp [u3]
  | [a] => by simp [u3]
  | [] => by simp [u3]
theorem core_u3 (l : List UInt8) : core (u3 l) = some l := by
  unfold core
  rw [if_neg (by rw [u3_len]; omega), u3_n3, mapM_let _ (n3_lt l)]
  simp [d4_n3]
theorem u3_mem {l : List UInt8} {c : UInt8} (h : c ∈ u3 l) : blankB c = false ∧ c ≠ 61 := by
  rw [u3_n3] at h
  obtain ⟨n, hn, rfl⟩ := List.mem_map.1 h
  exact ⟨blank_let n (n3_lt l n hn), let_ne n (n3_lt l n hn)⟩
theorem u3_last (l : List UInt8) : (u3 l).getLast? ≠ some 61 := by
  intro h
  exact (u3_mem (List.mem_of_getLast? h)).2 rfl
theorem filter_u3 (l : List UInt8) : ((u3 l).filter fun c => !blankB c) = u3 l := List.filter_eq_self.2 fun c hc => by rw [(u3_mem hc).1]; rfl
theorem dec_u3 (l : List UInt8) : dec (u3 l) = some l := by
  unfold dec
  rw [filter_u3]
  unfold strip
  rw [if_neg (fun h => u3_last l h.2), core_u3]
/-- The = at the end. -/
def padL (l : List UInt8) : List UInt8 := if l.length % 3 = 0 then [] else if l.length % 3 = 1 then [61, 61] else [61]
theorem e3_u3 : ∀ l : List UInt8, e3 l = u3 l ++ padL l
  | a :: b :: c :: r => by
    have : padL (a :: b :: c :: r) = padL r := by
      have e : (a :: b :: c :: r).length % 3 = r.length % 3 := by simp only [List.length_cons]; omega
      simp only [padL, e]
    simp [e3, u3, e3_u3 r, this]
  | [a, b] => rfl
  | [a] => rfl
  | [] => rfl
theorem strip_e3 (l : List UInt8) : strip (u3 l ++ padL l) = u3 l := by
  have hu := u3_len l
  unfold padL
  split
  · rw [List.append_nil]; unfold strip; rw [if_neg (fun h => u3_last l h.2)]
  · split
    · unfold strip
      rw [if_pos ⟨by simp; omega, by simp⟩]
      have e : (u3 l ++ [61, 61]).dropLast = u3 l ++ [61] := by rw [List.dropLast_append_of_ne_nil (by simp)]; rfl
      rw [e, if_pos (by simp), List.dropLast_append_of_ne_nil (by simp)]
      simp
    · unfold strip
      rw [if_pos ⟨by simp; omega, by simp⟩]
      have e : (u3 l ++ [61]).dropLast = u3 l := by simp
      rw [e, if_neg (u3_last l)]
theorem dec_e3 (l : List UInt8) : dec (e3 l) = some l := by
  unfold dec
  rw [e3_u3, List.filter_append, filter_u3]
  have : ((padL l).filter fun c => !blankB c) = padL l := by unfold padL; split; rfl; split <;> rfl
  rw [this, strip_e3, core_u3]
theorem e3_len : ∀ l : List UInt8, (e3 l).length = (l.length + 2) / 3 * 4
  | a :: b :: c :: r => by simp only [e3, List.length_cons, e3_len r]; omega
  | [a, b] => by simp [e3]
  | [a] => by simp [e3]
  | [] => by simp [e3]
theorem e3_append : ∀ (a b : List UInt8), a.length % 3 = 0 → e3 (a ++ b) = e3 a ++ e3 b
  | x :: y :: z :: r, b, h => by
    have : r.length % 3 = 0 := by simp only [List.length_cons] at h; omega
    simp [e3, e3_append r b this]
  | [x, y], b, h => by simp at h
  | [x], b, h => by simp at h
  | [], b, _ => rfl
/-- Of two bytes, the second a letter. -/
theorem dec_two (c : UInt8) (hb : blankB c = false) : (dec [c, 65]).isSome = (numB c).isSome := by
  have h1 : ([c, 65].filter fun c => !blankB c) = [c, 65] := by simp [hb]; rfl
  unfold dec
  rw [h1]
  unfold strip
  rw [if_neg (by simp)]
  unfold core
  rw [if_neg (by simp)]
  have h65 : numB 65 = some 0 := by decide
  rw [List.mapM_cons, List.mapM_cons, List.mapM_nil, h65]
  cases numB c <;> rfl

/-! ### What strings.Map leaves -/
def fB (x : Int) : Int := if x = 9 ∨ x = 10 ∨ x = 12 ∨ x = 13 ∨ x = 32 then -1 else x
end Go.Proofs.YtlhpncpihbpkoaaDoor
