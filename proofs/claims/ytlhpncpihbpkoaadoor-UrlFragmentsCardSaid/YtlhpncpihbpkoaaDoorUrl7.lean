/- The reference's Path, Default, and of lists of texts Same: walked. -/
import Derived.Test.YtlhpncpihbpkoaaDoorUrl5
import Derived.Test.YtlhpncpihbpkoaaDoorUrl1
import Derived.Test.YtlhpncpihbpkoaaDoorMap
import Derived.BigQuiet
import Derived.Deep.QuietTactic
import Derived.WalkKit
import Derived.Lib.Hide
import Derived.Deep.DeepMust
namespace Go.Proofs.YtlhpncpihbpkoaaDoor
open Go.RowKit

set_option maxHeartbeats 1000000 in
set_option maxRecDepth 100000 in
theorem rpath_opaque (sc us pa ho tx qu fr : ByteArray) (hh hq hf : Bool) (po : Int) (A : Option Addr) (n c : Nat) (w : World) :
    Calls Tryd.prog 18 #[.agg #[.string sc, .string us, .string pa, .string ho, .bool hh, .int .i64 po, .bool true, .string tx, .slice A n c, .bool hq, .bool hf, .string qu, .string fr]] w
      fun e w' => e = .returned (.string tx) ∧ Below w.heap.size w w' := by
  go_enter Tryd.func18, Tryd.ntmps18
  go_wp2
  go_ret
  exact ⟨rfl, (Below.refl _ _).alloc (Nat.le_refl _) _⟩

set_option maxHeartbeats 1000000 in
set_option maxRecDepth 100000 in
theorem rpath_segs (sc us pa ho tx qu fr : ByteArray) (hh hq hf : Bool) (po : Int) (A : Option Addr) (ps : List ByteArray) (c : Nat) (w : World) (hp : TextsAt w A ps) (hs : ps.length + sumSizes ps ≤ 1000000) :
    Calls Tryd.prog 18 #[.agg #[.string sc, .string us, .string pa, .string ho, .bool hh, .int .i64 po, .bool false, .string tx, .slice A ps.length c, .bool hq, .bool hf, .string qu, .string fr]] w
      fun e w' => e = .returned (.string (bs (segsL ps))) ∧ Below w.heap.size w w' := by
  obtain ⟨w1, hw1⟩ : ∃ w1, w1 = w.alloc (.cells #[.string sc, .string us, .string pa, .string ho, .bool hh, .int .i64 po, .bool false, .string tx, .slice A ps.length c, .bool hq, .bool hf, .string qu, .string fr] 24) := ⟨_, rfl⟩
  have hp1 : TextsAt w1 A ps := by rw [hw1]; exact hp.alloc _
  have hbel : Below w.heap.size w w1 := by rw [hw1]; exact (Below.refl _ _).alloc (Nat.le_refl _) _
  have HP := Lib.hid hp1
  have hcnt := hp.1
  have hc8 : w1.cell? ⟨w.heap.size, 8, none⟩ = some (.slice A ps.length c) := by rw [hw1]; simp
  clear hp1 hp
  go_enter Tryd.func18, Tryd.ntmps18
  go_wp2_with fail
  rw [← hw1]
  clear hw1
  go_loop [3, 4, 12] (fun o kv i => ∃ (k : Nat), k ≤ ps.length ∧ i = .int .i64 k ∧ o = .string (bs (segsL (ps.take k)))) (fun _ _ i => ps.length - (intOf i).toNat)
  case atStart => exact ⟨0, Nat.zero_le _, rfl, rfl⟩
  case round =>
    obtain ⟨k, hk, rfl, rfl⟩ := hrel
    by_cases hlt : k < ps.length
    · obtain ⟨ad, rfl, hc⟩ := (HP.out).2 (by omega)
      have hck := hc k hlt
      have hle := sumSizes_getD_le ps k hlt
      have hll : (bs (segsL (ps.take k))).size ≤ k + sumSizes (ps.take k) := by rw [bs_size, segsL_length, List.length_take]; omega
      have hnx : bs (segsL (ps.take (k + 1))) = bs (segsL (ps.take k)) ++ ⟨#[47]⟩ ++ ps.getD k ByteArray.empty := by
        rw [take_snoc' ps k hlt, segsL_append]
        apply ByteArray.ext
        apply Array.ext'
        simp [segsL, bs, ByteArray.data_append]
      obtain ⟨s, hs'⟩ : ∃ s, s = ps.getD k ByteArray.empty := ⟨_, rfl⟩
      rw [← hs'] at hck hle hnx
      clear hc hs'
      have HN := Lib.hid hnx
      clear hnx
      go_wp2_with fail
      go_round
      case rel => exact ⟨k + 1, by omega, by go_num, by rw [HN.out]⟩
      case measure => simp [intOf]; omega
    · obtain rfl : k = ps.length := by omega
      rw [List.take_length]
      go_wp2_with fail
      go_ret
      exact ⟨rfl, hbel⟩

theorem rpath_any (sc us pa ho tx qu fr : ByteArray) (hh op hq hf : Bool) (po : Int) (A : Option Addr) (ps : List ByteArray) (c : Nat) (w : World) (hp : TextsAt w A ps) (hs : ps.length + sumSizes ps ≤ 1000000) :
    Calls Tryd.prog 18 #[.agg #[.string sc, .string us, .string pa, .string ho, .bool hh, .int .i64 po, .bool op, .string tx, .slice A ps.length c, .bool hq, .bool hf, .string qu, .string fr]] w
      fun e w' => e = .returned (.string (bs (pathL op tx ps))) ∧ Below w.heap.size w w' := by
  cases op
  · exact rpath_segs sc us pa ho tx qu fr hh hq hf po A ps c w hp hs
  · exact rpath_opaque sc us pa ho tx qu fr hh hq hf po A ps.length c w

set_option maxRecDepth 100000 in
theorem rdefault_ftp (w : World) : Calls Tryd.prog 19 #[.string ⟨#[102, 116, 112]⟩] w fun e w' => e = .returned (.tuple #[.int .i64 ((portOf [102, 116, 112]).getD (-1)), .bool (portOf [102, 116, 112]).isSome]) ∧ w' = w := by
  go_enter Tryd.func19, Tryd.ntmps19
  go_wp2
  go_ret2
  exact ⟨rfl, rfl⟩
set_option maxRecDepth 100000 in
theorem rdefault_http (w : World) : Calls Tryd.prog 19 #[.string ⟨#[104, 116, 116, 112]⟩] w fun e w' => e = .returned (.tuple #[.int .i64 ((portOf [104, 116, 116, 112]).getD (-1)), .bool (portOf [104, 116, 116, 112]).isSome]) ∧ w' = w := by
  go_enter Tryd.func19, Tryd.ntmps19
  go_wp2
  go_ret2
  exact ⟨rfl, rfl⟩
set_option maxRecDepth 100000 in
theorem rdefault_https (w : World) : Calls Tryd.prog 19 #[.string ⟨#[104, 116, 116, 112, 115]⟩] w fun e w' => e = .returned (.tuple #[.int .i64 ((portOf [104, 116, 116, 112, 115]).getD (-1)), .bool (portOf [104, 116, 116, 112, 115]).isSome]) ∧ w' = w := by
  go_enter Tryd.func19, Tryd.ntmps19
  go_wp2
  go_ret2
  exact ⟨rfl, rfl⟩
set_option maxRecDepth 100000 in
theorem rdefault_ws (w : World) : Calls Tryd.prog 19 #[.string ⟨#[119, 115]⟩] w fun e w' => e = .returned (.tuple #[.int .i64 ((portOf [119, 115]).getD (-1)), .bool (portOf [119, 115]).isSome]) ∧ w' = w := by
  go_enter Tryd.func19, Tryd.ntmps19
  go_wp2
  go_ret2
  exact ⟨rfl, rfl⟩
set_option maxRecDepth 100000 in
theorem rdefault_wss (w : World) : Calls Tryd.prog 19 #[.string ⟨#[119, 115, 115]⟩] w fun e w' => e = .returned (.tuple #[.int .i64 ((portOf [119, 115, 115]).getD (-1)), .bool (portOf [119, 115, 115]).isSome]) ∧ w' = w := by
  go_enter Tryd.func19, Tryd.ntmps19
  go_wp2
  go_ret2
  exact ⟨rfl, rfl⟩
set_option maxRecDepth 100000 in
theorem rdefault_file (w : World) : Calls Tryd.prog 19 #[.string ⟨#[102, 105, 108, 101]⟩] w fun e w' => e = .returned (.tuple #[.int .i64 ((portOf [102, 105, 108, 101]).getD (-1)), .bool (portOf [102, 105, 108, 101]).isSome]) ∧ w' = w := by
  go_enter Tryd.func19, Tryd.ntmps19
  go_wp2
  go_ret2
  exact ⟨rfl, rfl⟩
theorem of_list {s : ByteArray} {l : List UInt8} (h : s.data.toList = l) : s = ⟨l.toArray⟩ := by
  rw [← h]
set_option maxHeartbeats 1000000 in
set_option maxRecDepth 100000 in
theorem rdefault_none (s : ByteArray) (w : World) (h0 : ¬ s.data.toList = [102, 116, 112]) (h1 : ¬ s.data.toList = [104, 116, 116, 112]) (h2 : ¬ s.data.toList = [104, 116, 116, 112, 115]) (h3 : ¬ s.data.toList = [119, 115]) (h4 : ¬ s.data.toList = [119, 115, 115]) (h5 : ¬ s.data.toList = [102, 105, 108, 101]) :
    Calls Tryd.prog 19 #[.string s] w fun e w' => e = .returned (.tuple #[.int .i64 (-1), .bool false]) ∧ w' = w := by
  have k0 : (s.toList == [102, 116, 112]) = false := by rw [ByteArray.toList_eq]; simpa using h0
  have k1 : (s.toList == [104, 116, 116, 112]) = false := by rw [ByteArray.toList_eq]; simpa using h1
  have k2 : (s.toList == [104, 116, 116, 112, 115]) = false := by rw [ByteArray.toList_eq]; simpa using h2
  have k3 : (s.toList == [119, 115]) = false := by rw [ByteArray.toList_eq]; simpa using h3
  have k4 : (s.toList == [119, 115, 115]) = false := by rw [ByteArray.toList_eq]; simpa using h4
  have k5 : (s.toList == [102, 105, 108, 101]) = false := by rw [ByteArray.toList_eq]; simpa using h5
  clear h0 h1 h2 h3 h4 h5
  go_enter Tryd.func19, Tryd.ntmps19
  go_wp2_with fail
  go_ret2
  exact ⟨rfl, rfl⟩
theorem rdefault_any (s : ByteArray) (w : World) :
    Calls Tryd.prog 19 #[.string s] w fun e w' => e = .returned (.tuple #[.int .i64 ((portOf s.data.toList).getD (-1)), .bool (portOf s.data.toList).isSome]) ∧ w' = w := by
  by_cases h0 : s.data.toList = [102, 116, 112]
  · rw [of_list h0]; exact rdefault_ftp w
  by_cases h1 : s.data.toList = [104, 116, 116, 112]
  · rw [of_list h1]; exact rdefault_http w
  by_cases h2 : s.data.toList = [104, 116, 116, 112, 115]
  · rw [of_list h2]; exact rdefault_https w
  by_cases h3 : s.data.toList = [119, 115]
  · rw [of_list h3]; exact rdefault_ws w
  by_cases h4 : s.data.toList = [119, 115, 115]
  · rw [of_list h4]; exact rdefault_wss w
  by_cases h5 : s.data.toList = [102, 105, 108, 101]
  · rw [of_list h5]; exact rdefault_file w
  have e : portOf s.data.toList = none := by unfold portOf; simp [h0, h1, h2, h3, h4, h5]
  rw [e]
  exact rdefault_none s w h0 h1 h2 h3 h4 h5

set_option maxHeartbeats 1000000 in
set_option maxRecDepth 100000 in
theorem rsame_any (A1 A2 : Option Addr) (p1 p2 : List ByteArray) (c1 c2 : Nat) (w : World) (h1 : TextsAt w A1 p1) (h2 : TextsAt w A2 p2) :
    Calls Tryd.prog 35 #[.slice A1 p1.length c1, .slice A2 p2.length c2] w fun e w' => e = .returned (.bool (decide (p1 = p2))) ∧ ∃ q, w' = w.drewN q := by
  by_cases hl : p1.length = p2.length
  · have hne : ((p1.length : Int) != p2.length) = false := by simp; omega
    have H1 := Lib.hid h1
    have H2 := Lib.hid h2
    have hcnt := h1.1
    have hle : p1.length ≤ p2.length := Nat.le_of_eq hl
    have HL := Lib.hid hl
    clear hl h1 h2
    go_enter Tryd.func35, Tryd.ntmps35
    go_wp2_with fail
    go_loopw [5, 13] (fun _ i wr => ∃ (k q : Nat), k ≤ p1.length ∧ i = .int .i64 k ∧ wr = w.drewN q ∧ ∀ j, j < k → p1.getD j ByteArray.empty = p2.getD j ByteArray.empty) (fun _ i _ => p1.length - (intOf i).toNat)
    case atStart => exact ⟨0, 0, Nat.zero_le _, rfl, rfl, fun j hj => by omega⟩
    case round =>
      obtain ⟨k, q, hk, rfl, rfl, hall⟩ := hrel
      have HA := Lib.hid hall
      clear hall
      by_cases hlt : k < p1.length
      · obtain ⟨b1, o1, rfl, hc1⟩ := (H1.out).plain (by omega)
        obtain ⟨b2, o2, rfl, hc2⟩ := (H2.out).plain (by omega)
        have hx1 := hc1 k hlt
        have hx2 := hc2 k (by omega)
        obtain ⟨s1, hs1⟩ : ∃ s, s = p1.getD k ByteArray.empty := ⟨_, rfl⟩
        obtain ⟨s2, hs2⟩ : ∃ s, s = p2.getD k ByteArray.empty := ⟨_, rfl⟩
        rw [← hs1] at hx1
        rw [← hs2] at hx2
        have i1 : (0 : Int) ≤ (k : Int) := by omega
        have i2 : (k : Int) < (p1.length : Int) := by omega
        have i3 : (k : Int) < (p2.length : Int) := by omega
        clear hc1 hc2
        have HS1 := Lib.hid hs1
        have HS2 := Lib.hid hs2
        clear hs1 hs2
        by_cases he : s1 = s2
        · have hb2 : (s1.toList == s2.toList) = true := by rw [he]; simp
          have HE := Lib.hid he
          clear he
          go_wp2_with fail
          go_quiet (fail)
          go_wp2_with fail
          go_roundw
          case rel =>
            refine ⟨k + 1, _, by omega, by go_num, (by first | rfl | exact World.drewN_drewN _ _ _), fun j hj => ?_⟩
            by_cases e : j = k
            · rw [e, ← HS1.out, ← HS2.out]; exact HE.out
            · exact HA.out j (by omega)
          case measure => simp [intOf]; omega
        · have hb2 : (s1.toList == s2.toList) = false := by
            rw [ByteArray.toList_eq, ByteArray.toList_eq, beq_eq_false_iff_ne]
            exact fun e => he (WideShapes.bytes_inj e)
          have HE := Lib.hid he
          clear he
          go_wp2_with fail
          go_quiet (fail)
          go_wp2_with fail
          go_ret
          refine ⟨congrArg (fun b => Ending.returned (.bool b)) ?_, _, (by first | rfl | exact World.drewN_drewN _ _ _)⟩
          rw [eq_comm, decide_eq_false_iff_not]
          intro e
          subst e
          exact HE.out (by rw [HS1.out, HS2.out])
      · obtain rfl : k = p1.length := by omega
        go_wp2_with fail
        go_ret
        refine ⟨congrArg (fun b => Ending.returned (.bool b)) ?_, _, rfl⟩
        rw [eq_comm, decide_eq_true_iff]
        have hall := HA.out
        have hl := HL.out
        apply List.ext_getElem hl
        intro j hj1 hj2
        have := hall j hj1
        simpa [List.getD_eq_getElem?_getD, List.getElem?_eq_getElem hj1, List.getElem?_eq_getElem hj2] using this
  · have hne : ((p1.length : Int) != p2.length) = true := by simp; omega
    go_enter Tryd.func35, Tryd.ntmps35
    go_wp2_with fail
    go_ret
    exact ⟨congrArg (fun b => Ending.returned (.bool b)) (by rw [decide_eq_false (fun e => hl (by rw [e]))]), 0, rfl⟩
end Go.Proofs.YtlhpncpihbpkoaaDoor
