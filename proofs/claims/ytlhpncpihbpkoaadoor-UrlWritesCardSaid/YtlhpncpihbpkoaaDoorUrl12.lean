/- What the walks of the laws of the package carryalllaw11 share. -/
import Derived.Test.YtlhpncpihbpkoaaDoorUrl10
import Derived.Test.YtlhpncpihbpkoaaDoorUrl9
import Derived.Test.YtlhpncpihbpkoaaDoorUrl8
import Derived.Test.YtlhpncpihbpkoaaDoorUrl6
namespace Go.Proofs.YtlhpncpihbpkoaaDoor
open Go.RowKit

/-- A contract that keeps what is held. -/
theorem held_call {S : World → Prop} {f : FuncId} {args : Array Value} {v : Value} (hk : ∀ W W', S W → Below W.heap.size W W' → S W') (h : ∀ W, S W → Calls Tryd.prog f args W fun e w' => e = .returned v ∧ Below W.heap.size W w') :
    ∀ W, S W → Calls Tryd.prog f args W fun e w' => e = .returned v ∧ S w' := fun W hS => (h W hS).mono fun e w' ⟨he, hb⟩ => ⟨he, hk W w' hS hb⟩
theorem below_drew (w : World) : Below w.heap.size w w.drew := ⟨rfl, rfl, rfl, Nat.le_refl _, fun _ _ => rfl⟩
theorem cell_kept {W W' : World} (hb : Below W.heap.size W W') {a : Addr} {v : Value} (h : W.cell? a = some v) : W'.cell? a = some v := (hb.cell (World.block_lt_of_cell? W a h)).trans h

end Go.Proofs.YtlhpncpihbpkoaaDoor
