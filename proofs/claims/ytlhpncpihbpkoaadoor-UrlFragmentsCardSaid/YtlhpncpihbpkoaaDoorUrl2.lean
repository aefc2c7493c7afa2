/- url.authority: walked. -/
import Derived.Test.YtlhpncpihbpkoaaDoorBuf2
import Derived.Test.YtlhpncpihbpkoaaDoorUrl1
import Derived.WalkKit
import Derived.Lib.ItoaLen
import Derived.Lib.Hide
import Derived.Deep.DeepMust
namespace Go.Proofs.YtlhpncpihbpkoaaDoor
open Go.RowKit

def portL (po : Int) : List UInt8 := if po = -1 then [] else 58 :: Lib.itoa po
def pwL (pa : ByteArray) : List UInt8 := if pa.data.toList = [] then [] else 58 :: pa.data.toList
def atL (us pa : ByteArray) : List UInt8 := if us.data.toList = [] ∧ pa.data.toList = [] then [] else [64]
def authL (us pa ho : ByteArray) (hh : Bool) (po : Int) : List UInt8 :=
  if hh then [47, 47] ++ us.data.toList ++ pwL pa ++ atL us pa ++ ho.data.toList ++ portL po else []
theorem pwL_yes {pa : ByteArray} (h : (!pa.toList.isEmpty) = true) : pwL pa = 58 :: pa.data.toList := by
  rw [ByteArray.toList_eq] at h
  unfold pwL
  rw [if_neg (fun e => by rw [e] at h; simp at h)]
theorem pwL_no {pa : ByteArray} (h : (!pa.toList.isEmpty) = false) : pwL pa = [] := by
  rw [ByteArray.toList_eq] at h
  unfold pwL
  rw [if_pos (by simpa using h)]
theorem atL_us {us pa : ByteArray} (h : ¬ us.toList = []) : atL us pa = [64] := by
  rw [ByteArray.toList_eq] at h
  unfold atL
  rw [if_neg (fun e => h e.1)]
theorem atL_pa {us pa : ByteArray} (h : (!pa.toList.isEmpty) = true) : atL us pa = [64] := by
  rw [ByteArray.toList_eq] at h
  unfold atL
  rw [if_neg (fun e => by rw [e.2] at h; simp at h)]
theorem atL_no {us pa : ByteArray} (h : us.toList = []) (h' : (!pa.toList.isEmpty) = false) : atL us pa = [] := by
  rw [ByteArray.toList_eq] at h h'
  unfold atL
  rw [if_pos ⟨h, by simpa using h'⟩]
theorem portL_yes {po : Int} (h : (po != -1) = true) : portL po = 58 :: Lib.itoa po := by
  unfold portL
  rw [if_neg (by simpa using h)]
theorem portL_no {po : Int} (h : (po != -1) = false) : portL po = [] := by
  unfold portL
  rw [if_pos (by simpa using h)]

theorem itoa_le (n : Int) (h0 : -9223372036854775808 ≤ n) (h1 : n ≤ 9223372036854775807) : (Lib.itoa n).length ≤ 400 := Nat.le_trans (Lib.itoa_length_le n h0 h1) (by decide)

theorem authL_le (us pa ho : ByteArray) (hh : Bool) (po : Int) (h0 : -9223372036854775808 ≤ po) (h1 : po ≤ 9223372036854775807) (h : us.size + pa.size + ho.size ≤ 1000000) : (authL us pa ho hh po).length ≤ 1001000 := by
  have k1 : (pwL pa).length ≤ 1 + pa.size := by unfold pwL; split <;> simp [len_list] <;> omega
  have k2 : (atL us pa).length ≤ 1 := by unfold atL; split <;> simp
  have k3 : (portL po).length ≤ 401 := by have := itoa_le po h0 h1; unfold portL; split <;> simp <;> omega
  unfold authL
  cases hh
  · simp
  · simp [len_list]; omega

set_option maxHeartbeats 1000000 in
set_option maxRecDepth 100000 in
theorem auth_none (sc us pa ho tx qu fr : ByteArray) (op hq hf : Bool) (po : Int) (A : Option Addr) (n c : Nat) (w : World) :
    Calls Tryd.prog 30 #[.agg #[.string sc, .string us, .string pa, .string ho, .bool false, .int .i64 po, .bool op, .string tx, .slice A n c, .bool hq, .bool hf, .string qu, .string fr]] w
      fun e w' => e = .returned (.string (bs [])) ∧ Below w.heap.size w w' := by
  go_enter Tryd.func30, Tryd.ntmps30
  go_wp2
  go_ret
  exact ⟨rfl, (Below.refl _ _).alloc (Nat.le_refl _) _⟩

set_option maxHeartbeats 2000000 in
set_option maxRecDepth 100000 in
theorem auth_some (sc us pa ho tx qu fr : ByteArray) (op hq hf : Bool) (po : Int) (A : Option Addr) (n c : Nat) (w : World) (ht : Tab w) (hs : us.size + pa.size + ho.size ≤ 1000000)
    (h0 : -9223372036854775808 ≤ po) (h1 : po ≤ 9223372036854775807) :
    Calls Tryd.prog 30 #[.agg #[.string sc, .string us, .string pa, .string ho, .bool true, .int .i64 po, .bool op, .string tx, .slice A n c, .bool hq, .bool hf, .string qu, .string fr]] w
      fun e w' => e = .returned (.string (bs (authL us pa ho true po))) ∧ Below w.heap.size w w' := by
  have ht1 : Tab (w.alloc (.cells #[.string sc, .string us, .string pa, .string ho, .bool true, .int .i64 po, .bool op, .string tx, .slice A n c, .bool hq, .bool hf, .string qu, .string fr] 24)) := ht.alloc _
  have hfr := Wr.fresh (w.alloc (.cells #[.string sc, .string us, .string pa, .string ho, .bool true, .int .i64 po, .bool op, .string tx, .slice A n c, .bool hq, .bool hf, .string qu, .string fr] 24))
  rw [World.size_alloc] at hfr
  have HIT := Lib.hid (itoa_le po h0 h1)
  go_enter Tryd.func30, Tryd.ntmps30
  go_wp2_with (first
    | (go_at_call 31; (refine (wr_string (by assumption) ?_).mono ?_; (simp [bs_size, sz_mk, len_list, list_append, ByteArray.size_append]; omega); rintro e w2 ⟨rfl, hwr⟩; have hcell := hwr.cell w.heap.size; have htab := hwr.tab ht1))
    | (go_at_call 42; (refine (itoa_any _ h0 h1 _ (by assumption)).mono ?_; rintro e w3 ⟨rfl, hb3⟩; have hwr := hwr.below hb3; have hcell := hwr.cell w.heap.size; have hiv := HIT.out; have hiv2 : (bs (Lib.itoa po)).size ≤ 400 := hiv))
    | (go_at_call 32; (refine (wr_end (by assumption)).mono ?_; rintro e w4 ⟨rfl, hfin⟩))
    | fail)
  all_goals
    go_ret
    refine ⟨ret_str ?_, ((Below.refl _ _).alloc (Nat.le_refl _) _).trans (hfin.mono (by omega))⟩
    rw [bs_list, bs_list]
    show _ = [47, 47] ++ us.data.toList ++ pwL pa ++ atL us pa ++ ho.data.toList ++ portL po
    first | rw [portL_yes (by assumption)] | rw [portL_no (by assumption)]
    first | rw [pwL_yes (by assumption)] | rw [pwL_no (by assumption)]
    first | rw [atL_us (by assumption)] | rw [atL_pa (by assumption)] | rw [atL_no (by assumption) (by assumption)]
    simp [list_append, bs]

theorem auth_any (sc us pa ho tx qu fr : ByteArray) (hh op hq hf : Bool) (po : Int) (A : Option Addr) (n c : Nat) (w : World) (ht : Tab w) (hs : us.size + pa.size + ho.size ≤ 1000000)
    (h0 : -9223372036854775808 ≤ po) (h1 : po ≤ 9223372036854775807) :
    Calls Tryd.prog 30 #[.agg #[.string sc, .string us, .string pa, .string ho, .bool hh, .int .i64 po, .bool op, .string tx, .slice A n c, .bool hq, .bool hf, .string qu, .string fr]] w
      fun e w' => e = .returned (.string (bs (authL us pa ho hh po))) ∧ Below w.heap.size w w' := by
  cases hh
  · exact auth_none sc us pa ho tx qu fr op hq hf po A n c w
  · exact auth_some sc us pa ho tx qu fr op hq hf po A n c w ht hs h0 h1
end Go.Proofs.YtlhpncpihbpkoaaDoor
