/- url.Print: walked. -/
import Derived.Test.YtlhpncpihbpkoaaDoorUrl3
import Derived.Deep.RegionHeld3
import Derived.WalkKit
import Derived.Lib.Hide
namespace Go.Proofs.YtlhpncpihbpkoaaDoor
open Go.RowKit

theorem bareL_le (sc us pa ho tx qu : ByteArray) (hh op hq : Bool) (po : Int) (ps : List ByteArray) (h0 : -9223372036854775808 ≤ po) (h1 : po ≤ 9223372036854775807) (hs : sc.size + us.size + pa.size + ho.size + tx.size + qu.size + ps.length + sumSizes ps ≤ 1000000) : (bareL sc us pa ho tx qu hh op hq po ps).length ≤ 6000000 := by
  have k1 := authL_le us pa ho hh po h0 h1 (by omega)
  have k2 := pathL_le op tx ps (by omega)
  have k3 : (dotL hh op ps).length ≤ 2 := by unfold dotL; split <;> simp
  have k4 : (quL hq qu).length ≤ 1 + qu.size := by unfold quL; cases hq <;> simp [len_list] <;> omega
  simp [bareL, len_list]
  omega

def printL (sc us pa ho tx qu fr : ByteArray) (hh op hq hf : Bool) (po : Int) (ps : List ByteArray) : List UInt8 :=
  bareL sc us pa ho tx qu hh op hq po ps ++ (if hf then 35 :: fr.data.toList else [])

set_option maxHeartbeats 2000000 in
set_option maxRecDepth 100000 in
theorem print_no (sc us pa ho tx qu fr : ByteArray) (hh op hq : Bool) (po : Int) (A : Option Addr) (ps : List ByteArray) (c : Nat) (w : World) (ht : Tab w) (hp : TextsAt w A ps)
    (hs : sc.size + us.size + pa.size + ho.size + tx.size + qu.size + ps.length + sumSizes ps ≤ 1000000) (h0 : -9223372036854775808 ≤ po) (h1 : po ≤ 9223372036854775807) :
    Calls Tryd.prog 14 #[.agg #[.string sc, .string us, .string pa, .string ho, .bool hh, .int .i64 po, .bool op, .string tx, .slice A ps.length c, .bool hq, .bool false, .string qu, .string fr]] w
      fun e w' => e = .returned (.string (bs (printL sc us pa ho tx qu fr hh op hq false po ps))) ∧ Below w.heap.size w w' := by
  have hb := fun W (hW : Tab W) (hP : TextsAt W A ps) => bare_any sc us pa ho tx qu fr hh op hq false po A ps c W hW hP (by omega) h0 h1
  have HB := Lib.hid hb
  have HT := Lib.hid ht
  have HP := Lib.hid hp
  clear hb
  go_enter Tryd.func14, Tryd.ntmps14
  go_wp2_with (first
    | (go_at_call 16; refine (HB.out _ (HT.out.alloc _) (HP.out.alloc _)).mono ?_; rintro e w2 ⟨rfl, hb2⟩)
    | fail)
  go_ret
  refine ⟨ret_str ?_, ((Below.refl _ _).alloc (Nat.le_refl _) _).trans (hb2.mono (by simp))⟩
  simp [bs_list, printL]

set_option maxHeartbeats 2000000 in
set_option maxRecDepth 100000 in
theorem print_yes (sc us pa ho tx qu fr : ByteArray) (hh op hq : Bool) (po : Int) (A : Option Addr) (ps : List ByteArray) (c : Nat) (w : World) (ht : Tab w) (hp : TextsAt w A ps)
    (hs : sc.size + us.size + pa.size + ho.size + tx.size + qu.size + fr.size + ps.length + sumSizes ps ≤ 1000000) (h0 : -9223372036854775808 ≤ po) (h1 : po ≤ 9223372036854775807) :
    Calls Tryd.prog 14 #[.agg #[.string sc, .string us, .string pa, .string ho, .bool hh, .int .i64 po, .bool op, .string tx, .slice A ps.length c, .bool hq, .bool true, .string qu, .string fr]] w
      fun e w' => e = .returned (.string (bs (printL sc us pa ho tx qu fr hh op hq true po ps))) ∧ Below w.heap.size w w' := by
  have hb := fun W (hW : Tab W) (hP : TextsAt W A ps) => bare_any sc us pa ho tx qu fr hh op hq true po A ps c W hW hP (by omega) h0 h1
  have hl := bareL_le sc us pa ho tx qu hh op hq po ps h0 h1 (by omega)
  have HB := Lib.hid hb
  have ht1 : Tab (w.alloc (.cells #[.string sc, .string us, .string pa, .string ho, .bool hh, .int .i64 po, .bool op, .string tx, .slice A ps.length c, .bool hq, .bool true, .string qu, .string fr] 24)) := ht.alloc _
  have hp1 : TextsAt (w.alloc (.cells #[.string sc, .string us, .string pa, .string ho, .bool hh, .int .i64 po, .bool op, .string tx, .slice A ps.length c, .bool hq, .bool true, .string qu, .string fr] 24)) A ps := hp.alloc _
  clear hb
  have e1 := add_run (bs (bareL sc us pa ho tx qu hh op hq po ps)) ⟨#[35]⟩ (by have : ByteArray.size ⟨#[35]⟩ = 1 := rfl; rw [bs_size]; omega)
  have e2 := add_run (bs (bareL sc us pa ho tx qu hh op hq po ps) ++ ⟨#[35]⟩) fr (by have : ByteArray.size ⟨#[35]⟩ = 1 := rfl; rw [ByteArray.size_append, bs_size]; omega)
  have HT := Lib.hid ht1
  have HP := Lib.hid hp1
  clear ht1 hp1 ht hp
  go_enter Tryd.func14, Tryd.ntmps14
  go_wp2_with fail
  go_region_held3 (fun w' => w'.cell? ⟨w.heap.size, 0, none⟩ = some (.string sc) ∧ w'.cell? ⟨w.heap.size, 1, none⟩ = some (.string us) ∧ w'.cell? ⟨w.heap.size, 2, none⟩ = some (.string pa) ∧ w'.cell? ⟨w.heap.size, 3, none⟩ = some (.string ho) ∧ w'.cell? ⟨w.heap.size, 4, none⟩ = some (.bool hh) ∧ w'.cell? ⟨w.heap.size, 5, none⟩ = some (.int .i64 po) ∧ w'.cell? ⟨w.heap.size, 6, none⟩ = some (.bool op) ∧ w'.cell? ⟨w.heap.size, 7, none⟩ = some (.string tx) ∧ w'.cell? ⟨w.heap.size, 8, none⟩ = some (.slice A ps.length c) ∧ w'.cell? ⟨w.heap.size, 9, none⟩ = some (.bool hq) ∧ w'.cell? ⟨w.heap.size, 10, none⟩ = some (.bool true) ∧ w'.cell? ⟨w.heap.size, 11, none⟩ = some (.string qu) ∧ w'.cell? ⟨w.heap.size, 12, none⟩ = some (.string fr))
    (first
      | go_keep
      | (have hcell := fun o => hb2.cell (p := ⟨w.heap.size, o, none⟩) (by simp); refine ⟨?_, ?_, ?_, ?_, ?_, ?_, ?_, ?_, ?_, ?_, ?_, ?_, ?_⟩ <;> (rw [hcell]; simp)))
    (first
      | (go_at_call 16; refine (HB.out _ (by exact HT.out) (by exact HP.out)).mono ?_; rintro e w2 ⟨rfl, hb2⟩))
  clear e1 e2
  go_wp2
  go_ret
  have hb2' : Below (w.heap.size + 1) (w.alloc (.cells #[.string sc, .string us, .string pa, .string ho, .bool hh, .int .i64 po, .bool op, .string tx, .slice A ps.length c, .bool hq, .bool true, .string qu, .string fr] 24)) w2 := ⟨hb2.os, hb2.tape, hb2.output, hb2.size, fun i hi => hb2.block i (by simpa using hi)⟩
  refine ⟨ret_str ?_, ((Below.refl _ _).alloc (Nat.le_refl _) _).trans (hb2'.mono (Nat.le_succ _))⟩
  simp [bs_list, list_append, printL]

theorem print_any (sc us pa ho tx qu fr : ByteArray) (hh op hq hf : Bool) (po : Int) (A : Option Addr) (ps : List ByteArray) (c : Nat) (w : World) (ht : Tab w) (hp : TextsAt w A ps)
    (hs : sc.size + us.size + pa.size + ho.size + tx.size + qu.size + fr.size + ps.length + sumSizes ps ≤ 1000000) (h0 : -9223372036854775808 ≤ po) (h1 : po ≤ 9223372036854775807) :
    Calls Tryd.prog 14 #[.agg #[.string sc, .string us, .string pa, .string ho, .bool hh, .int .i64 po, .bool op, .string tx, .slice A ps.length c, .bool hq, .bool hf, .string qu, .string fr]] w
      fun e w' => e = .returned (.string (bs (printL sc us pa ho tx qu fr hh op hq hf po ps))) ∧ Below w.heap.size w w' := by
  cases hf
  · exact print_no sc us pa ho tx qu fr hh op hq po A ps c w ht hp (by omega) h0 h1
  · exact print_yes sc us pa ho tx qu fr hh op hq po A ps c w ht hp hs h0 h1
end Go.Proofs.YtlhpncpihbpkoaaDoor
