/- Words for URLs: texts as lists of bytes, a path's cells; what is written of a URL, as lists (no program in sight). -/
import Derived.Test.YtlhpncpihbpkoaaDoorRows
import Derived.Below
import Derived.WalkKit
namespace Go.Proofs.YtlhpncpihbpkoaaDoor
open Go.RowKit

/-- A text out of its bytes. -/
def bs (l : List UInt8) : ByteArray := ⟨l.toArray⟩
theorem bs_list (l : List UInt8) : (bs l).data.toList = l := rfl
theorem bs_of (s : ByteArray) : bs s.data.toList = s := rfl
theorem bs_size (l : List UInt8) : (bs l).size = l.length := rfl
theorem bs_append (a b : List UInt8) : bs a ++ bs b = bs (a ++ b) := by
  apply ByteArray.ext
  apply Array.ext'
  simp [bs, ByteArray.data_append]
theorem sz_mk (d : Array UInt8) : (ByteArray.mk d).size = d.size := rfl
theorem len_list (s : ByteArray) : s.data.toList.length = s.size := by rw [Array.length_toList]; rfl
theorem list_append (a b : ByteArray) : (a ++ b).data.toList = a.data.toList ++ b.data.toList := by rw [ByteArray.data_append, Array.toList_append]
theorem ret_str {a b : ByteArray} (h : a.data.toList = b.data.toList) : Ending.returned (.string a) = .returned (.string b) := by
  have : a = b := by apply ByteArray.ext; exact Array.ext' h
  rw [this]

theorem add_run (a b : ByteArray) (h : a.size + b.size ≤ 9223372036854775807) : ∀ W, (Op.stringOp .add a b).run Tryd.prog W = .ok (.string (a ++ b)) W := fun W => run_string_add_sum W a b h
/-- A slice of texts that is read. -/
def TextsAt (w : World) (A : Option Addr) (ps : List ByteArray) : Prop := ps.length ≤ 9223372036854775807 ∧ (0 < ps.length → ∃ ad, A = some ad ∧ ∀ j, j < ps.length → w.cell? (ad.add j) = some (.string (ps.getD j ByteArray.empty)))
theorem TextsAt.below {w w' : World} {A : Option Addr} {ps : List ByteArray} {B : Nat} (h : TextsAt w A ps) (hB : w.heap.size ≤ B) (hb : Below B w w') : TextsAt w' A ps :=
  ⟨h.1, fun hn => by
    obtain ⟨ad, e, hc⟩ := h.2 hn
    refine ⟨ad, e, fun j hj => ?_⟩
    have hlt := World.block_lt_of_cell? w _ (hc j hj)
    exact (hb.cell (by omega)).trans (hc j hj)⟩
theorem TextsAt.alloc {w : World} {A : Option Addr} {ps : List ByteArray} (h : TextsAt w A ps) (o : Obj) : TextsAt (w.alloc o) A ps := h.below (Nat.le_refl _) ((Below.refl _ _).alloc (Nat.le_refl _) o)

/-- What is written of segments. -/
def segsL : List ByteArray → List UInt8
  | [] => []
  | s :: r => 47 :: (s.data.toList ++ segsL r)
theorem segsL_append (a b : List ByteArray) : segsL (a ++ b) = segsL a ++ segsL b := by
  induction a with
  | nil => rfl
  | cons s r ih => simp [segsL, ih]
def sumSizes : List ByteArray → Nat
  | [] => 0
  | s :: r => s.size + sumSizes r
theorem sumSizes_append (a b : List ByteArray) : sumSizes (a ++ b) = sumSizes a + sumSizes b := by
  induction a with
  | nil => simp [sumSizes]
  | cons s r ih => simp [sumSizes, ih]; omega
theorem segsL_length (a : List ByteArray) : (segsL a).length = a.length + sumSizes a := by
  induction a with
  | nil => rfl
  | cons s r ih => simp [segsL, sumSizes, ih]; omega
theorem take_snoc' (ps : List ByteArray) (k : Nat) (h : k < ps.length) : ps.take (k + 1) = ps.take k ++ [ps.getD k ByteArray.empty] := by
  rw [List.take_succ_eq_append_getElem h]
  simp [List.getD_eq_getElem?_getD, List.getElem?_eq_getElem h]
theorem sumSizes_take_le (ps : List ByteArray) (k : Nat) : sumSizes (ps.take k) ≤ sumSizes ps := by
  have h := sumSizes_append (ps.take k) (ps.drop k)
  rw [List.take_append_drop] at h
  omega
theorem sumSizes_getD_le (ps : List ByteArray) (k : Nat) (h : k < ps.length) : sumSizes (ps.take k) + (ps.getD k ByteArray.empty).size ≤ sumSizes ps := by
  have h1 := sumSizes_take_le ps (k + 1)
  rw [take_snoc' ps k h, sumSizes_append] at h1
  simpa [sumSizes] using h1
end Go.Proofs.YtlhpncpihbpkoaaDoor
