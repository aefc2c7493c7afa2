/- The plain layer of base64: reading letter by letter, as the program does, is what the text says. No program in sight; no conditions. -/
import Derived.Test.YtlhpncpihbpkoaaDoorBase0
namespace Go.Proofs.YtlhpncpihbpkoaaDoor

/-- Letter by letter: the bits at hand, how many of them are not yet written, what is written. -/
def goB (b n : Nat) (acc : List UInt8) : List UInt8 → Option (List UInt8)
  | [] => some acc
  | c :: r => match numB c with
    | none => none
    | some x => if 8 ≤ n + 6 then goB (b * 64 % 65536 + x) (n - 2) (acc ++ [UInt8.ofNat ((b * 64 % 65536 + x) / 2 ^ (n - 2))]) r else goB (b * 64 % 65536 + x) (n + 6) acc r

theorem goB_none (c : UInt8) (r : List UInt8) (b n : Nat) (acc : List UInt8) (h : numB c = none) : goB b n acc (c :: r) = none := by simp [goB, h]
theorem goB_write (c : UInt8) (r : List UInt8) (b n x : Nat) (acc : List UInt8) (h : numB c = some x) (hn : 2 ≤ n) :
    goB b n acc (c :: r) = goB (b * 64 % 65536 + x) (n - 2) (acc ++ [UInt8.ofNat ((b * 64 % 65536 + x) / 2 ^ (n - 2))]) r := by simp only [goB, h]; rw [if_pos (by omega)]
theorem goB_wait (c : UInt8) (r : List UInt8) (b x : Nat) (acc : List UInt8) (h : numB c = some x) : goB b 0 acc (c :: r) = goB (b * 64 % 65536 + x) 6 acc r := by simp only [goB, h]; rw [if_neg (by omega)]

theorem mod_byte {a b : Nat} (h : a % 256 = b % 256) : UInt8.ofNat a = UInt8.ofNat b := by
  apply UInt8.toNat_inj.1
  simpa using h

theorem goB_all : ∀ (k : Nat) (l : List UInt8) (b : Nat) (acc : List UInt8), l.length ≤ k → goB b 0 acc l = (l.mapM numB).map fun v => acc ++ d4 v
  | _, [], b, acc, _ => by simp [goB, d4]
  | _, [c0], b, acc, _ => by
    cases h0 : numB c0 with
    | none => rw [goB_none _ _ _ _ _ h0, mapM_none (c := c0) (by simp) h0]; rfl
    | some x0 => rw [goB_wait _ _ _ _ _ h0]; simp [goB, h0, d4]
  | _, [c0, c1], b, acc, _ => by
    cases h0 : numB c0 with
    | none => rw [goB_none _ _ _ _ _ h0, mapM_none (c := c0) (by simp) h0]; rfl
    | some x0 =>
      rw [goB_wait _ _ _ _ _ h0]
      cases h1 : numB c1 with
      | none => rw [goB_none _ _ _ _ _ h1, mapM_none (c := c1) (by simp) h1]; rfl
      | some x1 =>
        have l0 := (num_some h0).1; have l1 := (num_some h1).1
        rw [goB_write _ _ _ _ _ _ h1 (by omega)]
        have e : [c0, c1].mapM numB = some [x0, x1] := by simp [h0, h1]
        rw [e]
        simp only [goB, d4, Option.map_some]
        rw [mod_byte (b := x0 * 4 + x1 / 16) (by omega)]
  | _, [c0, c1, c2], b, acc, _ => by
    cases h0 : numB c0 with
    | none => rw [goB_none _ _ _ _ _ h0, mapM_none (c := c0) (by simp) h0]; rfl
    | some x0 =>
      rw [goB_wait _ _ _ _ _ h0]
      cases h1 : numB c1 with
      | none => rw [goB_none _ _ _ _ _ h1, mapM_none (c := c1) (by simp) h1]; rfl
      | some x1 =>
        rw [goB_write _ _ _ _ _ _ h1 (by omega)]
        cases h2 : numB c2 with
        | none => rw [goB_none _ _ _ _ _ h2, mapM_none (c := c2) (by simp) h2]; rfl
        | some x2 =>
          have l0 := (num_some h0).1; have l1 := (num_some h1).1; have l2 := (num_some h2).1
          rw [goB_write _ _ _ _ _ _ h2 (by omega)]
          have e : [c0, c1, c2].mapM numB = some [x0, x1, x2] := by simp [h0, h1, h2]
          rw [e]
          simp only [goB, d4, Option.map_some]
          rw [List.append_assoc, mod_byte (a := ((b * 64 % 65536 + x0) * 64 % 65536 + x1) / 2 ^ (6 - 2)) (b := x0 * 4 + x1 / 16) (by omega), mod_byte (a := (((b * 64 % 65536 + x0) * 64 % 65536 + x1) * 64 % 65536 + x2) / 2 ^ (6 - 2 - 2)) (b := x1 % 16 * 16 + x2 / 4) (by omega)]
          rfl
  | 0, _ :: _ :: _ :: _ :: _, _, _, h => by simp at h
  | k + 1, c0 :: c1 :: c2 :: c3 :: r, b, acc, h => by
    cases h0 : numB c0 with
    | none => rw [goB_none _ _ _ _ _ h0, mapM_none (c := c0) (by simp) h0]; rfl
    | some x0 =>
      rw [goB_wait _ _ _ _ _ h0]
      cases h1 : numB c1 with
      | none => rw [goB_none _ _ _ _ _ h1, mapM_none (c := c1) (by simp) h1]; rfl
      | some x1 =>
        rw [goB_write _ _ _ _ _ _ h1 (by omega)]
        cases h2 : numB c2 with
        | none => rw [goB_none _ _ _ _ _ h2, mapM_none (c := c2) (by simp) h2]; rfl
        | some x2 =>
          rw [goB_write _ _ _ _ _ _ h2 (by omega)]
          cases h3 : numB c3 with
          | none => rw [goB_none _ _ _ _ _ h3, mapM_none (c := c3) (by simp) h3]; rfl
          | some x3 =>
            have l0 := (num_some h0).1; have l1 := (num_some h1).1; have l2 := (num_some h2).1; have l3 := (num_some h3).1
            rw [goB_write _ _ _ _ _ _ h3 (by omega)]
            show goB _ 0 _ r = _
            rw [goB_all k r _ _ (by simp at h; omega)]
            cases hr : r.mapM numB with
            | none =>
              have e : (c0 :: c1 :: c2 :: c3 :: r).mapM numB = none := by simp [h0, h1, h2, h3, hr]
              rw [e]; rfl
            | some v =>
              have e : (c0 :: c1 :: c2 :: c3 :: r).mapM numB = some (x0 :: x1 :: x2 :: x3 :: v) := by simp [h0, h1, h2, h3, hr]
              rw [e]
              simp only [d4, Option.map_some]
              rw [List.append_assoc, List.append_assoc, List.append_assoc, mod_byte (a := ((b * 64 % 65536 + x0) * 64 % 65536 + x1) / 2 ^ (6 - 2)) (b := x0 * 4 + x1 / 16) (by omega), mod_byte (a := (((b * 64 % 65536 + x0) * 64 % 65536 + x1) * 64 % 65536 + x2) / 2 ^ (6 - 2 - 2)) (b := x1 % 16 * 16 + x2 / 4) (by omega),
                mod_byte (a := ((((b * 64 % 65536 + x0) * 64 % 65536 + x1) * 64 % 65536 + x2) * 64 % 65536 + x3) / 2 ^ (6 - 2 - 2 - 2)) (b := x2 % 4 * 64 + x3) (by omega)]
              rfl
theorem core_go (l : List UInt8) : core l = if l.length % 4 = 1 then none else goB 0 0 [] l := by
  unfold core
  rw [goB_all l.length l 0 [] (Nat.le_refl _)]
  simp
end Go.Proofs.YtlhpncpihbpkoaaDoor
