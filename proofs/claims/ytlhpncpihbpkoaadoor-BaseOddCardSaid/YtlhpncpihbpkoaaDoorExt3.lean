/- What law03 calls, in the printer's words: the two Encodes, the two Decodes. Conditions stand in the statements. -/
import Derived.Test.YtlhpncpihbpkoaaDoorKd
import Derived.Test.YtlhpncpihbpkoaaDoorBase4
import Derived.Test.YtlhpncpihbpkoaaDoorBase5
import Derived.Test.YtlhpncpihbpkoaaDoorBase9
import Derived.Test.YtlhpncpihbpkoaaDoorBase11
namespace Go.Proofs.YtlhpncpihbpkoaaDoor
open Go.RowKit Go.Proofs.YtlhpncpihbpkoaaDoorW.PrintWords

/-- The tables that Go's library reads lie as their initialisers lay them. -/
structure Tabs (w : World) : Prop where
  utf : TabU w
theorem Tabs.drawn {w : World} (h : Tabs w) (n : Nat) : Tabs (w.drewN n) := ⟨h.utf⟩
theorem Tabs.below {w W : World} (h : Tabs w) (hb : Below w.heap.size w W) : Tabs W := ⟨Utf8Tabs_below h.utf hb⟩

namespace X.Ext
def base_Encode.f (l0 : List Int) : Option ByteArray := if okB l0 = true ∧ l0.length ≤ 1000000 then some (bs (e3 (toB l0))) else none
theorem base_Encode.calls (A0 : Option Addr) (c0 : Nat) (l0 : List Int) (r : ByteArray) (w : World) (hr0 : Kd.C (Kd.int .u8) w A0 l0.length l0) (hc0 : l0.length ≤ c0) (h : base_Encode.f l0 = some r) :
    Calls Tryd.prog 25 #[.slice A0 l0.length c0] w fun e w' => e = .returned (.string r) ∧ Below w.heap.size w w' := by
  unfold base_Encode.f at h
  split at h
  · rename_i hb
    obtain rfl := Option.some.inj h
    have := encode_any A0 c0 (toB l0) w (bytes_of_C hr0 hc0 hb.1) (by rw [toB_len]; exact hb.2)
    rwa [toB_len] at this
  · cases h
def ref03_Encode.f (l0 : List Int) : Option ByteArray := if okB l0 = true ∧ l0.length ≤ 1000000 then some (bs (e3 (toB l0))) else none
theorem ref03_Encode.calls (A0 : Option Addr) (c0 : Nat) (l0 : List Int) (r : ByteArray) (w : World) (hr0 : Kd.C (Kd.int .u8) w A0 l0.length l0) (hc0 : l0.length ≤ c0) (h : ref03_Encode.f l0 = some r) :
    Calls Tryd.prog 27 #[.slice A0 l0.length c0] w fun e w' => e = .returned (.string r) ∧ Below w.heap.size w w' := by
  unfold ref03_Encode.f at h
  split at h
  · rename_i hb
    obtain rfl := Option.some.inj h
    have := rencode_any A0 c0 (toB l0) w (bytes_of_C hr0 hc0 hb.1) (by rw [toB_len]; exact hb.2)
    rwa [toB_len] at this
  · cases h
def base_Decode.f (a0 : ByteArray) : Option (List Int × Bool) := if a0.size ≤ 100000 then some (ofB ((dec a0.data.toList).getD []), (dec a0.data.toList).isSome) else none
theorem base_Decode.calls (a0 : ByteArray) (r1 : List Int) (r2 : Bool) (w : World) (hT : Tabs w) (h : base_Decode.f a0 = some (r1, r2)) :
    Calls Tryd.prog 26 #[.string a0] w fun e w' => ∃ v0_ : Value, e = .returned (.tuple #[v0_, .bool r2]) ∧ Kd.R (Kd.int .u8) 5 w' w.heap.size (fun k_ => w.heap.size ≤ k_) v0_ r1 ∧ Below w.heap.size w w' := by
  unfold base_Decode.f at h
  split at h
  · rename_i hb
    simp only [Option.some.injEq, Prod.mk.injEq] at h
    obtain ⟨rfl, rfl⟩ := h
    refine (decode_any a0 w hb hT.utf).mono ?_
    rintro e w' ⟨v, he, ho, hbel⟩
    exact ⟨v, he, R_of_Own ho, hbel⟩
  · cases h
def ref03_Decode.f (a0 : ByteArray) : Option (List Int × Bool) := if a0.size ≤ 100000 then some (ofB ((dec a0.data.toList).getD []), (dec a0.data.toList).isSome) else none
theorem ref03_Decode.calls (a0 : ByteArray) (r1 : List Int) (r2 : Bool) (w : World) (h : ref03_Decode.f a0 = some (r1, r2)) :
    Calls Tryd.prog 28 #[.string a0] w fun e w' => ∃ v0_ : Value, e = .returned (.tuple #[v0_, .bool r2]) ∧ Kd.R (Kd.int .u8) 5 w' w.heap.size (fun k_ => w.heap.size ≤ k_) v0_ r1 ∧ Below w.heap.size w w' := by
  unfold ref03_Decode.f at h
  split at h
  · rename_i hb
    simp only [Option.some.injEq, Prod.mk.injEq] at h
    obtain ⟨rfl, rfl⟩ := h
    refine (rdecode_any a0 w hb).mono ?_
    rintro e w' ⟨v, he, ho, hbel⟩
    exact ⟨v, he, R_of_Own ho, hbel⟩
  · cases h
end X.Ext
end Go.Proofs.YtlhpncpihbpkoaaDoor
