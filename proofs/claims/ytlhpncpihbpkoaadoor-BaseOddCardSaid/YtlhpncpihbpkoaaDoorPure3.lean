/- law03's statements: what their proofs share. No conditions. -/
import Derived.Test.YtlhpncpihbpkoaaDoorExt3
import Derived.Test.YtlhpncpihbpkoaaDoorAwake3
namespace Go.Proofs.YtlhpncpihbpkoaaDoor.X
open Go.RowKit Go.Proofs.YtlhpncpihbpkoaaDoorW.PrintWords Go.Proofs.YtlhpncpihbpkoaaDoorW.PrintLast Go.Proofs.YtlhpncpihbpkoaaDoorW.PrintMore

theorem w64 {z : Int} (h0 : -9223372036854775808 ≤ z) (h1 : z ≤ 9223372036854775807) : wrap64 z = z := by unfold wrap64; omega
theorem bdec (a : ByteArray) (h : a.size ≤ 100000) : Ext.base_Decode.f a = some (ofB ((dec a.data.toList).getD []), (dec a.data.toList).isSome) := by unfold Ext.base_Decode.f; rw [if_pos h]
theorem rdec (a : ByteArray) (h : a.size ≤ 100000) : Ext.ref03_Decode.f a = some (ofB ((dec a.data.toList).getD []), (dec a.data.toList).isSome) := by unfold Ext.ref03_Decode.f; rw [if_pos h]
theorem benc (l : List Int) (hb : okB l = true) (h : l.length ≤ 1000000) : Ext.base_Encode.f l = some (bs (e3 (toB l))) := by unfold Ext.base_Encode.f; rw [if_pos ⟨hb, h⟩]
theorem renc (l : List Int) (hb : okB l = true) (h : l.length ≤ 1000000) : Ext.ref03_Encode.f l = some (bs (e3 (toB l))) := by unfold Ext.ref03_Encode.f; rw [if_pos ⟨hb, h⟩]
theorem nums_ofB (l : List UInt8) : (strOfNums (ofB l)).toList = l := by rw [strOfNums_toB, toB_ofB, Lib.toList_data]; rfl
theorem bs_toList (l : List UInt8) : (bs l).toList = l := Lib.toList_data _

theorem blanks_at (y : List UInt8) (i : Int) (h0 : 0 ≤ i) (h1 : i < 5) : ∃ c, blankB c = true ∧ rdOf ByteArray.empty [(⟨#[32]⟩ : ByteArray), (⟨#[9]⟩ : ByteArray), (⟨#[10]⟩ : ByteArray), (⟨#[12]⟩ : ByteArray), (⟨#[13]⟩ : ByteArray)] i = bs [c] := by
  have h : i = 0 ∨ i = 1 ∨ i = 2 ∨ i = 3 ∨ i = 4 := by omega
  rcases h with rfl | rfl | rfl | rfl | rfl
  · exact ⟨32, rfl, rfl⟩
  · exact ⟨9, rfl, rfl⟩
  · exact ⟨10, rfl, rfl⟩
  · exact ⟨12, rfl, rfl⟩
  · exact ⟨13, rfl, rfl⟩
theorem cut_list (a : ByteArray) (n : Nat) (c : List UInt8) : ((a.extract 0 n ++ bs c) ++ a.extract n a.size).data.toList = a.data.toList.take n ++ c ++ a.data.toList.drop n := by
  rw [list_append, list_append, bs_list, Lib.extract_data, Lib.extract_data]
  have e : a.size = a.data.toList.length := (len_list a).symm
  rw [List.take_of_length_le (l := List.drop n a.data.toList) (by rw [List.length_drop]; omega)]
  simp
theorem cut_size (a : ByteArray) (n : Nat) (h : n ≤ a.size) (c : List UInt8) : ((a.extract 0 n ++ bs c) ++ a.extract n a.size).size = a.size + c.length := by
  rw [← len_list, cut_list]
  have e : a.size = a.data.toList.length := (len_list a).symm
  rw [List.length_append, List.length_append, List.length_take, List.length_drop]
  omega
end Go.Proofs.YtlhpncpihbpkoaaDoor.X
