/- The reference's Encode at any slice: 'e3'. Condition: the bytes lie where the slice says; they are at most a million. -/
import Derived.Test.YtlhpncpihbpkoaaDoorBase8
namespace Go.Proofs.YtlhpncpihbpkoaaDoor
open Go.RowKit

set_option maxRecDepth 100000 in
theorem rencode_none (A : Option Addr) (c : Nat) (w : World) :
    Calls Tryd.prog 27 #[.slice A 0 c] w fun e w' => e = .returned (.string (bs [])) ∧ Below w.heap.size w w' := by
  have hcv := fun W => convert_zero W none 0
  go_enter Tryd.func27, Tryd.ntmps27
  go_wp2
  go_loopg [3, 4] 0 (fun gk s3 s4 wx => s3 = .slice none 0 0 ∧ s4 = .int .i64 0 ∧ wx = w)
  case atStart => exact ⟨rfl, rfl, rfl⟩
  case round =>
    obtain ⟨rfl, rfl, rfl⟩ := hrel
    go_wp2
    go_loopg [3] 0 (fun gk s3 wx => s3 = .slice none 0 0 ∧ wx = wr)
    case atStart => exact ⟨rfl, rfl⟩
    case round =>
      obtain ⟨rfl, rfl⟩ := hrel
      go_wp2
      go_ret
      exact ⟨rfl, Below.refl _ _⟩
theorem rencode_any (A : Option Addr) (c : Nat) (l : List UInt8) (w : World) (hl : BytesAt w A l c) (hz : l.length ≤ 1000000) :
    Calls Tryd.prog 27 #[.slice A l.length c] w fun e w' => e = .returned (.string (bs (e3 l))) ∧ Below w.heap.size w w' := by
  rcases Nat.eq_zero_or_pos l.length with h | h
  · obtain rfl := List.eq_nil_of_length_eq_zero h
    exact rencode_none A c w
  · obtain ⟨b, o, rfl, _⟩ := hl.2 h
    exact rencode_some b o c l w hl hz
end Go.Proofs.YtlhpncpihbpkoaaDoor
