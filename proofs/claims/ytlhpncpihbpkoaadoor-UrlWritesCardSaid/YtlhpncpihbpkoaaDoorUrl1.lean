/- url.Path: walked. -/
import Derived.Test.YtlhpncpihbpkoaaDoorUrl0
import Derived.Test.YtlhpncpihbpkoaaDoorBuf
import Derived.WalkKit
import Derived.Lib.Hide
import Derived.Deep.DeepMust
namespace Go.Proofs.YtlhpncpihbpkoaaDoor
open Go.RowKit

def pathL (op : Bool) (tx : ByteArray) (ps : List ByteArray) : List UInt8 := if op then tx.data.toList else segsL ps

theorem pathL_le (op : Bool) (tx : ByteArray) (ps : List ByteArray) (h : tx.size + ps.length + sumSizes ps ≤ 1000000) : (pathL op tx ps).length ≤ 2000000 := by
  unfold pathL
  cases op <;> simp [segsL_length, len_list] <;> omega

set_option maxHeartbeats 1000000 in
set_option maxRecDepth 100000 in
theorem path_opaque (sc us pa ho tx qu fr : ByteArray) (hh hq hf : Bool) (po : Int) (A : Option Addr) (n c : Nat) (w : World) :
    Calls Tryd.prog 17 #[.agg #[.string sc, .string us, .string pa, .string ho, .bool hh, .int .i64 po, .bool true, .string tx, .slice A n c, .bool hq, .bool hf, .string qu, .string fr]] w
      fun e w' => e = .returned (.string tx) ∧ Below w.heap.size w w' := by
  go_enter Tryd.func17, Tryd.ntmps17
  go_wp2
  go_ret
  exact ⟨rfl, (Below.refl _ _).alloc (Nat.le_refl _) _⟩

set_option maxHeartbeats 1000000 in
set_option maxRecDepth 100000 in
theorem path_segs (sc us pa ho tx qu fr : ByteArray) (hh hq hf : Bool) (po : Int) (A : Option Addr) (ps : List ByteArray) (c : Nat) (w : World) (hp : TextsAt w A ps) (hs : ps.length + sumSizes ps ≤ 1000000) :
    Calls Tryd.prog 17 #[.agg #[.string sc, .string us, .string pa, .string ho, .bool hh, .int .i64 po, .bool false, .string tx, .slice A ps.length c, .bool hq, .bool hf, .string qu, .string fr]] w
      fun e w' => e = .returned (.string (bs (segsL ps))) ∧ Below w.heap.size w w' := by
  go_enter Tryd.func17, Tryd.ntmps17
  go_wp2
  have hcnt := hp.1
  obtain ⟨w1, hw1⟩ : ∃ w1, w1 = w.alloc (.cells #[.string sc, .string us, .string pa, .string ho, .bool hh, .int .i64 po, .bool false, .string tx, .slice A ps.length c, .bool hq, .bool hf, .string qu, .string fr] 24) := ⟨_, rfl⟩
  have hz : w1.heap.size = w.heap.size + 1 := by rw [hw1]; simp
  have hp1 : TextsAt w1 A ps := by rw [hw1]; exact hp.alloc _
  have hbel : Below w.heap.size w w1 := by rw [hw1]; exact (Below.refl _ _).alloc (Nat.le_refl _) _
  have HZ := Lib.hid hz
  have HP := Lib.hid hp1
  rw [← hw1, ← hz]
  clear hw1 hz hp hp1
  go_loopw [13] (fun i wr => ∃ k : Nat, k ≤ ps.length ∧ i = .int .i64 k ∧ Buf w1.heap.size w1.heap.size (segsL (ps.take k)) wr ∧ Below w1.heap.size w1 wr) (fun i _ => ps.length - (intOf i).toNat)
  case atStart => exact ⟨0, Nat.zero_le _, rfl, buf_fresh w1, (Below.refl _ _).alloc (Nat.le_refl _) _⟩
  case round =>
    obtain ⟨k, hk, rfl, hbuf, hb⟩ := hrel
    by_cases hlt : k < ps.length
    · obtain ⟨ad, rfl, hc⟩ := ((HP.out).below (Nat.le_refl _) hb).2 (by omega)
      have hck := hc k hlt
      have hsz := hb.size
      have hle := sumSizes_getD_le ps k hlt
      have hnx : segsL (ps.take (k + 1)) = segsL (ps.take k) ++ (bs [47] ++ ps.getD k ByteArray.empty).data.toList := by rw [take_snoc' ps k hlt, segsL_append]; simp [segsL, bs, ByteArray.data_append]
      have hll : (segsL (ps.take k)).length ≤ k + sumSizes (ps.take k) := by rw [segsL_length, List.length_take]; omega
      obtain ⟨s, hs'⟩ : ∃ s, s = ps.getD k ByteArray.empty := ⟨_, rfl⟩
      rw [← hs'] at hck hle hnx
      clear hc hs'
      have HN := Lib.hid hnx
      clear hnx
      have hb' : (bs [47] ++ s).size = 1 + s.size := by simp [bs, ByteArray.size_append]; rfl
      have HB' := Lib.hid hb'
      clear hb'
      go_wp2_with (go_at_call 31; refine (write_string w1.heap.size w1.heap.size _ (bs [47] ++ s) _ hbuf (by have := HB'.out; omega) hsz).mono ?_)
      rintro e w2 ⟨rfl, hbuf2, hbe, _⟩
      rw [← HN.out] at hbuf2
      clear hbuf
      go_wp2
      go_roundw
      case rel => exact ⟨k + 1, by omega, by go_num, hbuf2, hb.trans hbe⟩
      case measure => simp [intOf]; omega
    · obtain rfl : k = ps.length := by omega
      have hsz := hb.size
      rw [List.take_length] at hbuf
      go_wp2_with (go_at_call 32; refine (string_any w1.heap.size w1.heap.size _ _ hbuf hsz).mono ?_)
      rintro e w2 ⟨rfl, hbe, _⟩
      go_wp2
      go_ret
      have := HZ.out
      exact ⟨rfl, hbel.trans ((hb.trans hbe).mono (by omega))⟩

theorem path_any (sc us pa ho tx qu fr : ByteArray) (hh hq hf op : Bool) (po : Int) (A : Option Addr) (ps : List ByteArray) (c : Nat) (w : World) (hp : TextsAt w A ps) (hs : ps.length + sumSizes ps ≤ 1000000) :
    Calls Tryd.prog 17 #[.agg #[.string sc, .string us, .string pa, .string ho, .bool hh, .int .i64 po, .bool op, .string tx, .slice A ps.length c, .bool hq, .bool hf, .string qu, .string fr]] w
      fun e w' => e = .returned (.string (bs (pathL op tx ps))) ∧ Below w.heap.size w w' := by
  cases op
  · exact path_segs sc us pa ho tx qu fr hh hq hf po A ps c w hp hs
  · exact path_opaque sc us pa ho tx qu fr hh hq hf po A ps.length c w
end Go.Proofs.YtlhpncpihbpkoaaDoor
