/- strings.IndexRune over the five blanks, at a rune beyond ASCII: never there. strings.ContainsRune beside it, and the closure that drops blanks: it hands back 'fB'. Condition: the number is a rune (at most U+10FFFF). -/
import Derived.Test.YtlhpncpihbpkoaaDoorBuf2
import Derived.Test.YtlhpncpihbpkoaaDoorBase0
import Derived.WalkKit
import Derived.WalkMore
import Derived.Deep.RegionHeld3
import Derived.BigQuiet
import Derived.Deep.QuietTactic
import Derived.Lib.OthersKept
import Derived.Laws.Runes
import Derived.Deep.LoopGhost
import Derived.Deep.DeepMust
namespace Go.Proofs.YtlhpncpihbpkoaaDoor
open Go.RowKit

set_option maxHeartbeats 1000000 in
set_option maxRecDepth 100000 in
theorem index_rune_error (w : World) :
    Calls Tryd.prog 56 #[.string ⟨#[9, 10, 12, 13, 32]⟩, .int .i32 65533] w fun e w' => e = .returned (.int .i64 (-1)) ∧ Below w.heap.size w w' := by
  have hd : ∀ p, p < 5 → (Utf8.decode ⟨#[9, 10, 12, 13, 32]⟩ p).1 < 128 ∧ (Utf8.decode ⟨#[9, 10, 12, 13, 32]⟩ p).2 = 1 := by decide
  have HD := Lib.hid hd
  clear hd
  go_enter Tryd.func56, Tryd.ntmps56
  go_wp2
  go_loopg [] 5 (fun gk wx => ∃ pos : Nat, wx.heap[w.heap.size]? = some (.stringIter ⟨#[9, 10, 12, 13, 32]⟩ pos) ∧ Below w.heap.size w wx ∧ 5 ≤ pos + gk ∧ pos ≤ 5)
  case atStart => exact ⟨0, World.iter_heap w _ 0, (Below.refl _ _).alloc (Nat.le_refl _) _, by omega, by omega⟩
  case round =>
    obtain ⟨pos, hit, hb, hf, hp⟩ := hrel
    by_cases hlt : pos < 5
    · obtain ⟨g2, rfl⟩ : ∃ g2, gk = g2 + 1 := ⟨gk - 1, by omega⟩
      have hnx : ∀ ty, (Instr.next (.pointer (some ⟨w.heap.size, 0, none⟩)) true ty).run Tryd.prog wr = _ := fun ty => Lib.run_next_any_at wr w.heap.size _ pos ty hit hlt
      obtain ⟨h1, h2⟩ := HD.out pos hlt
      have hit2 := Lib.iterAt_heap wr w.heap.size _ pos (pos + 1) hit
      have hb2 := Lib.below_iterAt hb (k := w.heap.size) (Nat.le_refl _) ⟨#[9, 10, 12, 13, 32]⟩ (pos + 1)
      rw [h2] at hnx
      generalize (Utf8.decode ⟨#[9, 10, 12, 13, 32]⟩ pos).1 = R at hnx h1
      have hne : ((R : Int) == 65533) = false := by simp; omega
      have hne2 : ¬ ((R : Int) = 65533) := by omega
      clear hit hb h2
      go_wp2
      go_roundg g2
      case measure => omega
      case rel => exact ⟨pos + 1, hit2, hb2, by omega, by omega⟩
    · have hnx : ∀ ty, (Instr.next (.pointer (some ⟨w.heap.size, 0, none⟩)) true ty).run Tryd.prog wr = _ := fun ty => Lib.run_next_end_at wr w.heap.size _ pos ty hit hlt
      go_wp2
      go_ret
      exact ⟨rfl, hb⟩

set_option maxHeartbeats 1000000 in
set_option maxRecDepth 100000 in
theorem index_rune_bad (r : Int) (h : 128 ≤ r) (hr : r ≠ 65533) (hv : Lib.validRune r = false) (w : World) :
    Calls Tryd.prog 56 #[.string ⟨#[9, 10, 12, 13, 32]⟩, .int .i32 r] w fun e w' => e = .returned (.int .i64 (-1)) ∧ Below w.heap.size w w' := by
  have h1 : ¬ r < 128 := by omega
  have h2 : 0 ≤ r := by omega
  have h3 : (r == 65533) = false := by simpa using hr
  go_enter Tryd.func56, Tryd.ntmps56
  go_wp2_with (go_at_call 63; refine (Tryd.utf8_ValidRune _ _).mono ?_; rintro e w2 ⟨rfl, rfl⟩; rw [hv])
  go_ret
  exact ⟨rfl, Below.refl _ _⟩

theorem blanks_low (i j : Nat) : ∀ b ∈ ((⟨#[9, 10, 12, 13, 32]⟩ : ByteArray).extract i j).data.toList, b.toNat < 128 := by
  intro b hb
  rw [Lib.extract_data] at hb
  have hm := List.mem_of_mem_drop (List.mem_of_mem_take hb)
  have : ∀ b ∈ (⟨#[9, 10, 12, 13, 32]⟩ : ByteArray).data.toList, b.toNat < 128 := by decide
  exact this b hm
theorem high_byte (x : UInt8) (hx : 128 ≤ x.toNat) : 128 ≤ ((x.toNat : Int).toNat.toUInt8).toNat := by simpa using hx
theorem index_none : ∀ (l : List UInt8) (c : UInt8), (∀ b ∈ l, b ≠ c) → Lib.indexByte l c = -1
  | [], _, _ => rfl
  | a :: l, c, h => by
    have h1 : (a == c) = false := by simpa using h a (by simp)
    simp [Lib.indexByte, h1, index_none l c (fun b hb => h b (by simp [hb]))]

set_option maxHeartbeats 1000000 in
set_option maxRecDepth 100000 in
theorem index_rune_valid (r : Int) (h : 128 ≤ r) (hr : r ≠ 65533) (hv : Lib.validRune r = true) (w : World) :
    Calls Tryd.prog 56 #[.string ⟨#[9, 10, 12, 13, 32]⟩, .int .i32 r] w fun e w' => e = .returned (.int .i64 (-1)) ∧ Below w.heap.size w w' := by
  have h1 : ¬ r < 128 := by omega
  have h2 : 0 ≤ r := by omega
  have h3 : (r == 65533) = false := by simpa using hr
  have hv2 : Utf8.valid r = true := by
    unfold Lib.validRune at hv
    have := of_decide_eq_true hv
    unfold Utf8.valid
    simp only [Bool.or_eq_true, Bool.and_eq_true, decide_eq_true_eq]
    omega
  obtain ⟨e1, e2, e3⟩ := encode_facts r hv2 h
  have hconv : ∀ W, (convert 21 9 (.int .i32 r)).run Tryd.prog W = .ok (.string (Utf8.encode r)) W := fun W => run_convert_int_string W 21 9 .i32 r (by rw [Tryd.underlying21]; rfl) Tryd.underlying9
  generalize Utf8.encode r = rs at e1 e2 e3 hconv
  have e4 := e3 (by omega)
  generalize hx : (rs[rs.size - 1]'(by omega)) = x at e4
  have hn : rs.size = 2 ∨ rs.size = 3 ∨ rs.size = 4 := by omega
  clear e3
  rcases hn with hn | hn | hn
  · simp only [hn] at hx
    go_enter Tryd.func56, Tryd.ntmps56
    go_wp2_with (go_at_call 63; refine (Tryd.utf8_ValidRune _ _).mono ?_; rintro e w2 ⟨rfl, rfl⟩; rw [hv])
    go_step3
    go_wp2
    go_loopg [9] 0 (fun gk s9 wx => s9 = .int .i64 1 ∧ wx = w2)
    case atStart => exact ⟨rfl, rfl⟩
    case round =>
      obtain ⟨rfl, rfl⟩ := hrel
      have hb : (1 : Int) < (rs.size : Int) := by omega
      have hwr : IntKind.i64.wrap 2 = 2 := by decide
      have hne : ((((⟨#[9, 10, 12, 13, 32]⟩ : ByteArray)[1]'(by decide)).toNat : Int) != (x.toNat : Int)) = true := by
        have : ((⟨#[9, 10, 12, 13, 32]⟩ : ByteArray)[1]'(by decide)).toNat < 128 := by decide
        rw [bne_iff_ne]
        omega
      go_wp2
      go_step3
      go_wp2
      go_quiet (fail)
      go_wp2
      go_region_held3 (fun W => Below wr.heap.size wr W) (first | assumption | exact ⟨rfl, rfl, rfl, Nat.le_refl _, fun _ _ => rfl⟩)
        (first
          | (go_at_call 38; refine (Tryd.strings_IndexByte _ _ _).mono ?_; rintro e w9 ⟨rfl, rfl⟩; rw [index_none _ _ (fun b hb e => absurd (blanks_low _ _ b hb) (by rw [e]; have := high_byte x e4; omega))])
          | fail)
      go_wp2
      simp only [Exit.noGoto, Exit.inBlock, Exit.then]
      go_ret
      exact ⟨rfl, by assumption⟩
  · simp only [hn] at hx
    go_enter Tryd.func56, Tryd.ntmps56
    go_wp2_with (go_at_call 63; refine (Tryd.utf8_ValidRune _ _).mono ?_; rintro e w2 ⟨rfl, rfl⟩; rw [hv])
    go_step3
    go_wp2
    go_loopg [9] 0 (fun gk s9 wx => s9 = .int .i64 2 ∧ wx = w2)
    case atStart => exact ⟨rfl, rfl⟩
    case round =>
      obtain ⟨rfl, rfl⟩ := hrel
      have hb : (2 : Int) < (rs.size : Int) := by omega
      have hwr : IntKind.i64.wrap 3 = 3 := by decide
      have hne : ((((⟨#[9, 10, 12, 13, 32]⟩ : ByteArray)[2]'(by decide)).toNat : Int) != (x.toNat : Int)) = true := by
        have : ((⟨#[9, 10, 12, 13, 32]⟩ : ByteArray)[2]'(by decide)).toNat < 128 := by decide
        rw [bne_iff_ne]
        omega
      go_wp2
      go_step3
      go_wp2
      go_quiet (fail)
      go_wp2
      go_region_held3 (fun W => Below wr.heap.size wr W) (first | assumption | exact ⟨rfl, rfl, rfl, Nat.le_refl _, fun _ _ => rfl⟩)
        (first
          | (go_at_call 38; refine (Tryd.strings_IndexByte _ _ _).mono ?_; rintro e w9 ⟨rfl, rfl⟩; rw [index_none _ _ (fun b hb e => absurd (blanks_low _ _ b hb) (by rw [e]; have := high_byte x e4; omega))])
          | fail)
      go_wp2
      simp only [Exit.noGoto, Exit.inBlock, Exit.then]
      go_ret
      exact ⟨rfl, by assumption⟩
  · simp only [hn] at hx
    go_enter Tryd.func56, Tryd.ntmps56
    go_wp2_with (go_at_call 63; refine (Tryd.utf8_ValidRune _ _).mono ?_; rintro e w2 ⟨rfl, rfl⟩; rw [hv])
    go_step3
    go_wp2
    go_loopg [9] 0 (fun gk s9 wx => s9 = .int .i64 3 ∧ wx = w2)
    case atStart => exact ⟨rfl, rfl⟩
    case round =>
      obtain ⟨rfl, rfl⟩ := hrel
      have hb : (3 : Int) < (rs.size : Int) := by omega
      have hwr : IntKind.i64.wrap 4 = 4 := by decide
      have hne : ((((⟨#[9, 10, 12, 13, 32]⟩ : ByteArray)[3]'(by decide)).toNat : Int) != (x.toNat : Int)) = true := by
        have : ((⟨#[9, 10, 12, 13, 32]⟩ : ByteArray)[3]'(by decide)).toNat < 128 := by decide
        rw [bne_iff_ne]
        omega
      go_wp2
      go_step3
      go_wp2
      go_quiet (fail)
      go_wp2
      go_region_held3 (fun W => Below wr.heap.size wr W) (first | assumption | exact ⟨rfl, rfl, rfl, Nat.le_refl _, fun _ _ => rfl⟩)
        (first
          | (go_at_call 38; refine (Tryd.strings_IndexByte _ _ _).mono ?_; rintro e w9 ⟨rfl, rfl⟩; rw [index_none _ _ (fun b hb e => absurd (blanks_low _ _ b hb) (by rw [e]; have := high_byte x e4; omega))])
          | fail)
      go_wp2
      simp only [Exit.noGoto, Exit.inBlock, Exit.then]
      go_ret
      exact ⟨rfl, by assumption⟩
end Go.Proofs.YtlhpncpihbpkoaaDoor
