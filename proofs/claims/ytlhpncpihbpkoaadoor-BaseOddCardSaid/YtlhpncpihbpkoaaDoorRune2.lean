/- strings.ContainsRune over the five blanks at a rune beyond ASCII, and the closure that drops blanks: it hands back 'fB'. Condition: the number is a rune that is decoded (0 to U+10FFFF). -/
import Derived.Test.YtlhpncpihbpkoaaDoorRune
namespace Go.Proofs.YtlhpncpihbpkoaaDoor
open Go.RowKit

theorem index_rune_high (r : Int) (h : 128 ≤ r) (w : World) :
    Calls Tryd.prog 56 #[.string ⟨#[9, 10, 12, 13, 32]⟩, .int .i32 r] w fun e w' => e = .returned (.int .i64 (-1)) ∧ Below w.heap.size w w' := by
  by_cases hr : r = 65533
  · subst hr; exact index_rune_error w
  · cases hv : Lib.validRune r
    · exact index_rune_bad r h hr hv w
    · exact index_rune_valid r h hr hv w

set_option maxRecDepth 100000 in
theorem contains_rune_high (r : Int) (h : 128 ≤ r) (w : World) :
    Calls Tryd.prog 46 #[.string ⟨#[9, 10, 12, 13, 32]⟩, .int .i32 r] w fun e w' => e = .returned (.bool false) ∧ Below w.heap.size w w' := by
  go_enter Tryd.func46, Tryd.ntmps46
  go_wp2_with (go_at_call 56; refine (index_rune_high r h _).mono ?_; rintro e w2 ⟨rfl, hb⟩)
  go_ret
  exact ⟨rfl, hb⟩

theorem low_there : ∀ n : Fin 128, decide (0 ≤ Lib.indexByte (⟨#[9, 10, 12, 13, 32]⟩ : ByteArray).data.toList (n.val : Int).toNat.toUInt8) = decide (n.val = 9 ∨ n.val = 10 ∨ n.val = 12 ∨ n.val = 13 ∨ n.val = 32) := by decide +kernel

theorem contains_rune_any (x : Nat) (w : World) :
    Calls Tryd.prog 46 #[.string ⟨#[9, 10, 12, 13, 32]⟩, .int .i32 x] w fun e w' => e = .returned (.bool (decide (x = 9 ∨ x = 10 ∨ x = 12 ∨ x = 13 ∨ x = 32))) ∧ Below w.heap.size w w' := by
  by_cases h : x < 128
  · refine (Tryd.strings_ContainsRune_ascii _ (x : Int) w (by omega) (by omega)).mono ?_
    rintro e w' ⟨rfl, rfl⟩
    rw [low_there ⟨x, h⟩]
    exact ⟨rfl, Below.refl _ _⟩
  · refine (contains_rune_high (x : Int) (by omega) w).mono ?_
    rintro e w' ⟨rfl, hb⟩
    rw [decide_eq_false (by omega)]
    exact ⟨rfl, hb⟩

set_option maxRecDepth 100000 in
theorem drops_any (x : Nat) (w : World) :
    Calls Tryd.prog 45 #[.int .i32 x] w fun e w' => e = .returned (.int .i32 (fB x)) ∧ Below w.heap.size w w' := by
  by_cases h : x = 9 ∨ x = 10 ∨ x = 12 ∨ x = 13 ∨ x = 32
  · have hf : fB x = -1 := by unfold fB; rw [if_pos (by omega)]
    go_enter Tryd.func45, Tryd.ntmps45
    go_wp2_with (go_at_call 46; refine (contains_rune_any x _).mono ?_; rintro e w2 ⟨rfl, hb⟩; rw [decide_eq_true h])
    go_ret
    exact ⟨by rw [hf]; rfl, hb⟩
  · have hf : fB x = x := by unfold fB; rw [if_neg (by omega)]
    go_enter Tryd.func45, Tryd.ntmps45
    go_wp2_with (go_at_call 46; refine (contains_rune_any x _).mono ?_; rintro e w2 ⟨rfl, hb⟩; rw [decide_eq_false h])
    go_ret
    exact ⟨by rw [hf]; rfl, hb⟩
end Go.Proofs.YtlhpncpihbpkoaaDoor
