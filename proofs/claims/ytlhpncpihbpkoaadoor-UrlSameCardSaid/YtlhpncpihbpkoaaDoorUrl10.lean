/- The shared 'awake' of the package carryalllaw11: it answers true wherever the table of tens lies. Conditions: none but the table. -/
import Derived.Test.YtlhpncpihbpkoaaDoorUrl5
import Derived.Test.YtlhpncpihbpkoaaDoorUrl4
import Derived.Test.YtlhpncpihbpkoaaDoorMap
import Derived.WalkKit
import Derived.KernelRfl
import Derived.Lib.Hide
import Derived.Deep.Light
import Derived.Deep.DeepMust
namespace Go.Proofs.YtlhpncpihbpkoaaDoor
open Go.RowKit

theorem below_two' {w : World} (o1 o2 : Obj) : Below w.heap.size w ((w.alloc o1).alloc o2) := ((Below.refl _ _).alloc (Nat.le_refl _) _).alloc (by simp) _

theorem texts_two (w : World) (o : Obj) (a b : ByteArray) (t : TypeId) : TextsAt ((w.alloc (.cells #[.string a, .string b] t)).alloc o) (some ⟨w.heap.size, 0, none⟩) [a, b] :=
  ⟨by simp, fun _ => ⟨_, rfl, fun j hj => by
    have hj2 : j < 2 := hj
    match j, hj2 with
    | 0, _ => exact World.cell?_alloc2_first _ _ _ 0
    | 1, _ => exact World.cell?_alloc2_first _ _ _ 1⟩⟩

set_option maxHeartbeats 4000000 in
set_option maxRecDepth 100000 in
theorem awake_any (w : World) (ht : Tab w) :
    Calls Tryd.prog 12 #[] w fun e w' => e = .returned (.bool true) ∧ Below w.heap.size w w' := by
  have hfin : bs (printL ⟨#[119, 101, 98, 43, 100, 101, 109, 111]⟩ ⟨#[]⟩ ⟨#[]⟩ ⟨#[]⟩ ⟨#[]⟩ ⟨#[]⟩ ⟨#[]⟩ false false false false (-1) [⟨#[]⟩, ⟨#[97]⟩]) = ⟨#[119, 101, 98, 43, 100, 101, 109, 111, 58, 47, 46, 47, 47, 97]⟩ := by kernel_rfl
  have hport : (portOf [102, 116, 112]).getD (-1) = 21 := by kernel_rfl
  have hsp : (portOf [104, 116, 116, 112]).isSome = true := by kernel_rfl
  have hsame : (whomB ⟨#[119, 101, 98, 43, 100, 101, 109, 111]⟩ ⟨#[]⟩ ⟨#[]⟩ ⟨#[]⟩ ⟨#[119, 101, 98, 43, 100, 101, 109, 111]⟩ ⟨#[]⟩ ⟨#[]⟩ ⟨#[]⟩ false false (-1) (-1) && pathB false false ⟨#[]⟩ ⟨#[]⟩ [⟨#[]⟩, ⟨#[97]⟩] [⟨#[]⟩, ⟨#[97]⟩] && queryB false false ⟨#[]⟩ ⟨#[]⟩ && queryB false false ⟨#[]⟩ ⟨#[]⟩) = true := by simp [whomB, pathB, queryB]
  go_enter Tryd.func12, Tryd.ntmps12
  go_wp2_with (first
    | (go_at_call 14; refine (print_any _ _ _ _ _ _ _ _ _ _ _ _ _ [⟨#[]⟩, ⟨#[97]⟩] 2 _ ((ht.alloc _).alloc _) (texts_two w _ ⟨#[]⟩ ⟨#[97]⟩ _) (by decide) (by decide) (by decide)).mono ?_; rintro e w2 ⟨rfl, hb⟩; rw [hfin]; have hsz := hb.size; have hcell := fun o => hb.cell (p := ⟨w.heap.size + 1, o, none⟩) (by simp))
    | (go_at_call 20; refine (special_any _ _ (by decide)).mono ?_; rintro e w3 ⟨rfl, hb3⟩; rw [hsp]; have hcell3 := fun o => hb3.cell (p := ⟨w.heap.size + 1, o, none⟩) (by simp at hsz ⊢; omega); have hsz3 := hb3.size)
    | (go_at_call 21; refine (default_any _ _ (by decide)).mono ?_; rintro e w4 ⟨rfl, hb4⟩; rw [hport]; have hcell4 := fun o => hb4.cell (p := ⟨w.heap.size + 1, o, none⟩) (by simp at hsz ⊢; omega); have hsz4 := hb4.size)
    | (go_at_call 22; refine (same_any _ _ _ _ _ _ _ _ _ _ _ _ _ [⟨#[]⟩, ⟨#[97]⟩] 2 _ _ _ _ _ _ _ _ _ _ _ _ _ [⟨#[]⟩, ⟨#[97]⟩] 2 _ ((((texts_two w _ ⟨#[]⟩ ⟨#[97]⟩ _).below (Nat.le_refl _) hb).below (Nat.le_refl _) hb3).below (Nat.le_refl _) hb4) ((((texts_two w _ ⟨#[]⟩ ⟨#[97]⟩ _).below (Nat.le_refl _) hb).below (Nat.le_refl _) hb3).below (Nat.le_refl _) hb4)).mono ?_; rintro e w5 ⟨rfl, hb5⟩; rw [hsame])
    | fail)
  go_ret
  refine ⟨rfl, ?_⟩
  have hz : w.heap.size + 2 ≤ w2.heap.size := by simpa using hsz
  exact (below_two' _ _).trans ((hb.mono (by simp; omega)).trans ((hb3.mono (by omega)).trans ((hb4.mono (by omega)).trans (hb5.mono (by omega)))))
end Go.Proofs.YtlhpncpihbpkoaaDoor
