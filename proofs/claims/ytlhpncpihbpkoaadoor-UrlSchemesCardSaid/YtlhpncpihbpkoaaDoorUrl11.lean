/- UrlSchemes, walked: it answers true. Conditions: the table of tens lies; the text is no longer than a text may be. -/
import Derived.Test.YtlhpncpihbpkoaaDoorUrl10
import Derived.Test.YtlhpncpihbpkoaaDoorUrl7
namespace Go.Proofs.YtlhpncpihbpkoaaDoor
open Go.RowKit

set_option maxHeartbeats 4000000 in
set_option maxRecDepth 100000 in
theorem schemes_any (s : ByteArray) (w : World) (hs : s.size ≤ maxLen) (ht : Tab w) :
    Calls Tryd.prog 4 #[.string s] w fun e w' => e = .returned (.bool true) ∧ Below w.heap.size w w' := by
  have hs2 : s.size ≤ 9223372036854775807 := Nat.le_trans hs (by decide)
  generalize hq : portOf s.data.toList = q
  have H := Lib.hid hq
  clear hq
  go_enter Tryd.func4, Tryd.ntmps4
  cases q <;>
  go_wp2_with (first
    | (go_at_call 12; first
        | (refine (awake_any _ ht).mono ?_; rintro e w2 ⟨rfl, hb⟩)
        | (refine (awake_any _ (ht.below (Nat.le_refl _) hb)).mono ?_; rintro e w6 ⟨rfl, hb6⟩))
    | (go_at_call 19; refine (rdefault_any _ _).mono ?_; rintro e w3 ⟨rfl, rfl⟩; rw [H.out])
    | (go_at_call 20; refine (special_any _ _ hs).mono ?_; rintro e w4 ⟨rfl, hb4⟩; rw [H.out])
    | (go_at_call 21; refine (default_any _ _ hs).mono ?_; rintro e w5 ⟨rfl, hb5⟩; rw [H.out])
    | fail)
  all_goals
    go_ret
    first | exact ⟨rfl, hb.trans (hb6.mono hb.size)⟩ | exact ⟨rfl, hb.trans ((hb4.mono hb.size).trans (hb5.mono (Nat.le_trans hb.size hb4.size)))⟩
end Go.Proofs.YtlhpncpihbpkoaaDoor
