/- The reference's Encode, walked: it answers 'e3'. Condition: the bytes lie where the slice says; they are at most a million. -/
import Derived.Test.YtlhpncpihbpkoaaDoorBase6
import Derived.Test.YtlhpncpihbpkoaaDoorBase7
import Derived.Test.YtlhpncpihbpkoaaDoorConv
import Derived.WalkKit
import Derived.Lib.Hide
import Derived.Deep.LoopGhost
import Derived.Deep.DeepMust
namespace Go.Proofs.YtlhpncpihbpkoaaDoor
open Go.RowKit

theorem pad_ok (n m P : Nat) (hP : P = if n % 3 = 0 then 0 else 3 - n % 3) (hm : m ≤ P) : (((4 * n + 2) / 3 + m) % 4 = 0 ↔ m = P) := by
  have h3 : n % 3 = 0 ∨ n % 3 = 1 ∨ n % 3 = 2 := by omega
  rcases h3 with h | h | h
  · rw [if_pos h] at hP
    constructor <;> intro _ <;> omega
  · rw [if_neg (by omega), h] at hP
    constructor <;> intro _ <;> omega
  · rw [if_neg (by omega), h] at hP
    constructor <;> intro _ <;> omega
theorem pad_le (n : Nat) : (if n % 3 = 0 then 0 else 3 - n % 3) ≤ 2 := by
  split <;> omega
theorem low1 (z : Int) (h0 : 0 ≤ z) (h1 : z < 256) : bits .and .u8 z 1 = z % 2 := by
  have h := bits_mask .u8 8 (by decide) wraps_u8 1 (by decide) z h0 (by omega)
  have e : ((2 : Int) ^ 1 - 1) = 1 := by decide
  rw [e] at h
  exact h

set_option maxHeartbeats 4000000 in
set_option maxRecDepth 100000 in
theorem rencode_some (bk off c : Nat) (l : List UInt8) (w : World) (hl : BytesAt w (some ⟨bk, off, none⟩) l c) (hz : l.length ≤ 1000000) :
    Calls Tryd.prog 27 #[.slice (some ⟨bk, off, none⟩) l.length c] w fun e w' => e = .returned (.string (bs (e3 l))) ∧ Below w.heap.size w w' := by
  have HL := Lib.hid hl
  clear hl
  have hn3 := n3_len l
  have HN3 := Lib.hid hn3
  clear hn3
  go_enter Tryd.func27, Tryd.ntmps27
  go_wp2
  go_loopg [3, 4] (n3 l).length (fun gk s3 s4 wx => ∃ i p : Nat, Hid (p = 6 * i) ∧ s4 = .int .i64 p ∧ Own w.heap.size s3 (((n3 l).take i).map letB) wx ∧ Below w.heap.size w wx ∧ i + gk = (n3 l).length)
  case atStart => exact ⟨0, 0, Lib.hid rfl, rfl, Own.nil _ _, Below.refl _ _, by omega⟩
  case round =>
    obtain ⟨i, p, HP, rfl, hown, hbw, hg⟩ := hrel
    by_cases hlt : i < (n3 l).length
    · have hln := HN3.out
      have hp := HP.out
      have i1 : (p : Int) < 8 * (l.length : Int) := by omega
      have i2 : (8 * (l.length : Int)) ≤ 8000000 := by omega
      have i3 : (p : Int) ≤ 8000000 := by omega
      obtain ⟨g2, rfl⟩ : ∃ g2, gk = g2 + 1 := ⟨gk - 1, by omega⟩
      clear hln hp
      go_wp2
      go_loopw [5, 6] (fun s5 s6 wx => ∃ (j k : Nat), Hid (k = p + j) ∧ j ≤ 6 ∧ s5 = .int .i64 (bitsL l p j) ∧ s6 = .int .i64 k ∧ wx = wr) (fun _ s6 _ => ((p : Int) + 6 - intOf s6).toNat)
      case atStart => exact ⟨0, p, Lib.hid rfl, by omega, rfl, rfl, rfl⟩
      case round =>
        obtain ⟨j, k, HK, hj, rfl, rfl, rfl⟩ := hrel
        have hk := HK.out
        have hn64 := bitsL_lt l p j
        have hpow : 2 ^ j ≤ 2 ^ 6 := Nat.pow_le_pow_right (by decide) hj
        have hn1 : (bitsL l p j : Int) ≤ 64 := by omega
        obtain ⟨n, hn⟩ : ∃ n, bitsL l p j = n := ⟨_, rfl⟩
        rw [hn] at hn1 ⊢
        by_cases hj6 : j < 6
        · have j1 : (k : Int) < (p : Int) + 6 := by omega
          have hk0 : (0 : Int) ≤ (k : Int) := by omega
          by_cases hkl : k < 8 * l.length
          · have k1 : (k : Int) < 8 * (l.length : Int) := by omega
            obtain ⟨x, hx⟩ : ∃ x, l[k / 8]? = some x := ⟨l[k / 8]'(by omega), by simp⟩
            obtain ⟨b, o, e, hc⟩ := HL.out.2 (by omega)
            cases e
            have hcell := (hbw.cell (p := ⟨bk, off + k / 8, none⟩) (by have := World.block_lt_of_cell? w _ (hc _ x hx); simpa using this)).trans (hc _ x hx)
            obtain ⟨q, hq⟩ : ∃ q, q = k / 8 := ⟨_, rfl⟩
            have kq : (k : Int) / 8 = (q : Int) := by omega
            have k2 : (q : Int) < (l.length : Int) := by omega
            have k3 : (0 : Int) ≤ (q : Int) := by omega
            rw [← hq] at hcell hx
            have hm : k % 8 = 0 ∨ k % 8 = 1 ∨ k % 8 = 2 ∨ k % 8 = 3 ∨ k % 8 = 4 ∨ k % 8 = 5 ∨ k % 8 = 6 ∨ k % 8 = 7 := by omega
            have HX := Lib.hid hx; have HLT := Lib.hid hlt; have HG := Lib.hid hg; have HN := Lib.hid hn; have HQ := Lib.hid hq
            clear hc hk hn64 hpow hkl hx hlt hg hn hz hq
            have hstep : bitsL l p (j + 1) = 2 * n + bitL l k := by rw [bitsL, HN.out, ← HK.out]
            have HS := Lib.hid hstep
            clear hstep
            rcases hm with hm | hm | hm | hm | hm | hm | hm | hm
            · have km : (k : Int) % 8 = 0 := by omega
              have hbit : bitL l k = x.toNat / 128 % 2 := by unfold bitL; rw [← HQ.out, hm]; simp [List.getD, HX.out]
              have hlow := low1 ((x.toNat : Int) / 128) (by omega) (by have := x.toNat_lt; omega)
              have HBT := Lib.hid hbit
              clear hm hbit
              by_cases hb1 : x.toNat / 128 % 2 = 1
              · have hb : (bits .and .u8 ((x.toNat : Int) / 128) 1 == 1) = true := by rw [hlow, beq_iff_eq]; omega
                have HB1 := Lib.hid hb1
                clear hb1 hlow
                go_wp2
                go_roundw
                case rel => exact ⟨j + 1, k + 1, Lib.hid (by have := HK.out; omega), by omega, congrArg (Value.int .i64) (by rw [HS.out, HBT.out, HB1.out]; omega), by go_num, (by first | rfl | trivial)⟩
                case measure => simp [intOf]; omega
              · have hb : (bits .and .u8 ((x.toNat : Int) / 128) 1 == 1) = false := by rw [hlow, beq_eq_false_iff_ne]; omega
                have hb0 : x.toNat / 128 % 2 = 0 := by omega
                have HB1 := Lib.hid hb0
                clear hb1 hb0 hlow
                go_wp2
                go_roundw
                case rel => exact ⟨j + 1, k + 1, Lib.hid (by have := HK.out; omega), by omega, congrArg (Value.int .i64) (by rw [HS.out, HBT.out, HB1.out]; omega), by go_num, (by first | rfl | trivial)⟩
                case measure => simp [intOf]; omega
            · have km : (k : Int) % 8 = 1 := by omega
              have hbit : bitL l k = x.toNat / 64 % 2 := by unfold bitL; rw [← HQ.out, hm]; simp [List.getD, HX.out]
              have hlow := low1 ((x.toNat : Int) / 64) (by omega) (by have := x.toNat_lt; omega)
              have HBT := Lib.hid hbit
              clear hm hbit
              by_cases hb1 : x.toNat / 64 % 2 = 1
              · have hb : (bits .and .u8 ((x.toNat : Int) / 64) 1 == 1) = true := by rw [hlow, beq_iff_eq]; omega
                have HB1 := Lib.hid hb1
                clear hb1 hlow
                go_wp2
                go_roundw
                case rel => exact ⟨j + 1, k + 1, Lib.hid (by have := HK.out; omega), by omega, congrArg (Value.int .i64) (by rw [HS.out, HBT.out, HB1.out]; omega), by go_num, (by first | rfl | trivial)⟩
                case measure => simp [intOf]; omega
              · have hb : (bits .and .u8 ((x.toNat : Int) / 64) 1 == 1) = false := by rw [hlow, beq_eq_false_iff_ne]; omega
                have hb0 : x.toNat / 64 % 2 = 0 := by omega
                have HB1 := Lib.hid hb0
                clear hb1 hb0 hlow
                go_wp2
                go_roundw
                case rel => exact ⟨j + 1, k + 1, Lib.hid (by have := HK.out; omega), by omega, congrArg (Value.int .i64) (by rw [HS.out, HBT.out, HB1.out]; omega), by go_num, (by first | rfl | trivial)⟩
                case measure => simp [intOf]; omega
            · have km : (k : Int) % 8 = 2 := by omega
              have hbit : bitL l k = x.toNat / 32 % 2 := by unfold bitL; rw [← HQ.out, hm]; simp [List.getD, HX.out]
              have hlow := low1 ((x.toNat : Int) / 32) (by omega) (by have := x.toNat_lt; omega)
              have HBT := Lib.hid hbit
              clear hm hbit
              by_cases hb1 : x.toNat / 32 % 2 = 1
              · have hb : (bits .and .u8 ((x.toNat : Int) / 32) 1 == 1) = true := by rw [hlow, beq_iff_eq]; omega
                have HB1 := Lib.hid hb1
                clear hb1 hlow
                go_wp2
                go_roundw
                case rel => exact ⟨j + 1, k + 1, Lib.hid (by have := HK.out; omega), by omega, congrArg (Value.int .i64) (by rw [HS.out, HBT.out, HB1.out]; omega), by go_num, (by first | rfl | trivial)⟩
                case measure => simp [intOf]; omega
              · have hb : (bits .and .u8 ((x.toNat : Int) / 32) 1 == 1) = false := by rw [hlow, beq_eq_false_iff_ne]; omega
                have hb0 : x.toNat / 32 % 2 = 0 := by omega
                have HB1 := Lib.hid hb0
                clear hb1 hb0 hlow
                go_wp2
                go_roundw
                case rel => exact ⟨j + 1, k + 1, Lib.hid (by have := HK.out; omega), by omega, congrArg (Value.int .i64) (by rw [HS.out, HBT.out, HB1.out]; omega), by go_num, (by first | rfl | trivial)⟩
                case measure => simp [intOf]; omega
            · have km : (k : Int) % 8 = 3 := by omega
              have hbit : bitL l k = x.toNat / 16 % 2 := by unfold bitL; rw [← HQ.out, hm]; simp [List.getD, HX.out]
              have hlow := low1 ((x.toNat : Int) / 16) (by omega) (by have := x.toNat_lt; omega)
              have HBT := Lib.hid hbit
              clear hm hbit
              by_cases hb1 : x.toNat / 16 % 2 = 1
              · have hb : (bits .and .u8 ((x.toNat : Int) / 16) 1 == 1) = true := by rw [hlow, beq_iff_eq]; omega
                have HB1 := Lib.hid hb1
                clear hb1 hlow
                go_wp2
                go_roundw
                case rel => exact ⟨j + 1, k + 1, Lib.hid (by have := HK.out; omega), by omega, congrArg (Value.int .i64) (by rw [HS.out, HBT.out, HB1.out]; omega), by go_num, (by first | rfl | trivial)⟩
                case measure => simp [intOf]; omega
              · have hb : (bits .and .u8 ((x.toNat : Int) / 16) 1 == 1) = false := by rw [hlow, beq_eq_false_iff_ne]; omega
                have hb0 : x.toNat / 16 % 2 = 0 := by omega
                have HB1 := Lib.hid hb0
                clear hb1 hb0 hlow
                go_wp2
                go_roundw
                case rel => exact ⟨j + 1, k + 1, Lib.hid (by have := HK.out; omega), by omega, congrArg (Value.int .i64) (by rw [HS.out, HBT.out, HB1.out]; omega), by go_num, (by first | rfl | trivial)⟩
                case measure => simp [intOf]; omega
            · have km : (k : Int) % 8 = 4 := by omega
              have hbit : bitL l k = x.toNat / 8 % 2 := by unfold bitL; rw [← HQ.out, hm]; simp [List.getD, HX.out]
              have hlow := low1 ((x.toNat : Int) / 8) (by omega) (by have := x.toNat_lt; omega)
              have HBT := Lib.hid hbit
              clear hm hbit
              by_cases hb1 : x.toNat / 8 % 2 = 1
              · have hb : (bits .and .u8 ((x.toNat : Int) / 8) 1 == 1) = true := by rw [hlow, beq_iff_eq]; omega
                have HB1 := Lib.hid hb1
                clear hb1 hlow
                go_wp2
                go_roundw
                case rel => exact ⟨j + 1, k + 1, Lib.hid (by have := HK.out; omega), by omega, congrArg (Value.int .i64) (by rw [HS.out, HBT.out, HB1.out]; omega), by go_num, (by first | rfl | trivial)⟩
                case measure => simp [intOf]; omega
              · have hb : (bits .and .u8 ((x.toNat : Int) / 8) 1 == 1) = false := by rw [hlow, beq_eq_false_iff_ne]; omega
                have hb0 : x.toNat / 8 % 2 = 0 := by omega
                have HB1 := Lib.hid hb0
                clear hb1 hb0 hlow
                go_wp2
                go_roundw
                case rel => exact ⟨j + 1, k + 1, Lib.hid (by have := HK.out; omega), by omega, congrArg (Value.int .i64) (by rw [HS.out, HBT.out, HB1.out]; omega), by go_num, (by first | rfl | trivial)⟩
                case measure => simp [intOf]; omega
            · have km : (k : Int) % 8 = 5 := by omega
              have hbit : bitL l k = x.toNat / 4 % 2 := by unfold bitL; rw [← HQ.out, hm]; simp [List.getD, HX.out]
              have hlow := low1 ((x.toNat : Int) / 4) (by omega) (by have := x.toNat_lt; omega)
              have HBT := Lib.hid hbit
              clear hm hbit
              by_cases hb1 : x.toNat / 4 % 2 = 1
              · have hb : (bits .and .u8 ((x.toNat : Int) / 4) 1 == 1) = true := by rw [hlow, beq_iff_eq]; omega
                have HB1 := Lib.hid hb1
                clear hb1 hlow
                go_wp2
                go_roundw
                case rel => exact ⟨j + 1, k + 1, Lib.hid (by have := HK.out; omega), by omega, congrArg (Value.int .i64) (by rw [HS.out, HBT.out, HB1.out]; omega), by go_num, (by first | rfl | trivial)⟩
                case measure => simp [intOf]; omega
              · have hb : (bits .and .u8 ((x.toNat : Int) / 4) 1 == 1) = false := by rw [hlow, beq_eq_false_iff_ne]; omega
                have hb0 : x.toNat / 4 % 2 = 0 := by omega
                have HB1 := Lib.hid hb0
                clear hb1 hb0 hlow
                go_wp2
                go_roundw
                case rel => exact ⟨j + 1, k + 1, Lib.hid (by have := HK.out; omega), by omega, congrArg (Value.int .i64) (by rw [HS.out, HBT.out, HB1.out]; omega), by go_num, (by first | rfl | trivial)⟩
                case measure => simp [intOf]; omega
            · have km : (k : Int) % 8 = 6 := by omega
              have hbit : bitL l k = x.toNat / 2 % 2 := by unfold bitL; rw [← HQ.out, hm]; simp [List.getD, HX.out]
              have hlow := low1 ((x.toNat : Int) / 2) (by omega) (by have := x.toNat_lt; omega)
              have HBT := Lib.hid hbit
              clear hm hbit
              by_cases hb1 : x.toNat / 2 % 2 = 1
              · have hb : (bits .and .u8 ((x.toNat : Int) / 2) 1 == 1) = true := by rw [hlow, beq_iff_eq]; omega
                have HB1 := Lib.hid hb1
                clear hb1 hlow
                go_wp2
                go_roundw
                case rel => exact ⟨j + 1, k + 1, Lib.hid (by have := HK.out; omega), by omega, congrArg (Value.int .i64) (by rw [HS.out, HBT.out, HB1.out]; omega), by go_num, (by first | rfl | trivial)⟩
                case measure => simp [intOf]; omega
              · have hb : (bits .and .u8 ((x.toNat : Int) / 2) 1 == 1) = false := by rw [hlow, beq_eq_false_iff_ne]; omega
                have hb0 : x.toNat / 2 % 2 = 0 := by omega
                have HB1 := Lib.hid hb0
                clear hb1 hb0 hlow
                go_wp2
                go_roundw
                case rel => exact ⟨j + 1, k + 1, Lib.hid (by have := HK.out; omega), by omega, congrArg (Value.int .i64) (by rw [HS.out, HBT.out, HB1.out]; omega), by go_num, (by first | rfl | trivial)⟩
                case measure => simp [intOf]; omega
            · have km : (k : Int) % 8 = 7 := by omega
              have hbit : bitL l k = x.toNat % 2 := by unfold bitL; rw [← HQ.out, hm]; simp [List.getD, HX.out]
              have hlow := low1 ((x.toNat : Int)) (by omega) (by have := x.toNat_lt; omega)
              have HBT := Lib.hid hbit
              clear hm hbit
              by_cases hb1 : x.toNat % 2 = 1
              · have hb : (bits .and .u8 ((x.toNat : Int)) 1 == 1) = true := by rw [hlow, beq_iff_eq]; omega
                have HB1 := Lib.hid hb1
                clear hb1 hlow
                go_wp2
                go_roundw
                case rel => exact ⟨j + 1, k + 1, Lib.hid (by have := HK.out; omega), by omega, congrArg (Value.int .i64) (by rw [HS.out, HBT.out, HB1.out]; omega), by go_num, (by first | rfl | trivial)⟩
                case measure => simp [intOf]; omega
              · have hb : (bits .and .u8 ((x.toNat : Int)) 1 == 1) = false := by rw [hlow, beq_eq_false_iff_ne]; omega
                have hb0 : x.toNat % 2 = 0 := by omega
                have HB1 := Lib.hid hb0
                clear hb1 hb0 hlow
                go_wp2
                go_roundw
                case rel => exact ⟨j + 1, k + 1, Lib.hid (by have := HK.out; omega), by omega, congrArg (Value.int .i64) (by rw [HS.out, HBT.out, HB1.out]; omega), by go_num, (by first | rfl | trivial)⟩
                case measure => simp [intOf]; omega
          · have k1 : ¬ (k : Int) < 8 * (l.length : Int) := by omega
            have hbit : bitL l k = 0 := by
              unfold bitL
              have h0 : l[k / 8]? = none := List.getElem?_eq_none (by omega)
              simp [List.getD, h0]
            have hstep : bitsL l p (j + 1) = 2 * n := by rw [bitsL, hn, ← hk, hbit]; omega
            have HS := Lib.hid hstep; have HLT := Lib.hid hlt; have HG := Lib.hid hg
            clear hstep hbit hk hn64 hpow hkl hlt hg hn hz
            go_wp2
            go_roundw
            case rel => exact ⟨j + 1, k + 1, Lib.hid (by have := HK.out; omega), by omega, congrArg (Value.int .i64) (by rw [HS.out]; omega), by go_num, (by first | rfl | trivial)⟩
            case measure => simp [intOf]; omega
        · obtain rfl : j = 6 := by omega
          have hk6 : (k : Int) = (p : Int) + 6 := by omega
          have j1 : ¬ (k : Int) < (p : Int) + 6 := by omega
          have hn7 : n < 64 := by omega
          have htk : ((n3 l).take (i + 1)).map letB = ((n3 l).take i).map letB ++ [letB n] := by rw [u3_take l i hlt, ← HP.out, hn]
          have hlen1 : (((n3 l).take i).map letB).length ≤ 2000000 := by simp; have := HN3.out; omega
          have HTK := Lib.hid htk; have HLT := Lib.hid hlt; have HG := Lib.hid hg
          clear htk hk hn64 hpow hlt hg hn hz hk6
          go_wp2_with (first
            | (go_at_call 39; refine (rletter_any n hn7 _).mono ?_; rintro e w3 ⟨rfl, rfl⟩)
            | (at_builtin; refine own_append rfl _ _ rfl w.heap.size _ _ (letB n) _ _ (by rfl) (by rfl) hown hbw.size (by omega) rfl ?_; intro v4 w4 hown4 hb4)
            | fail)
          go_roundg g2
          case measure => omega
          case rel => exact ⟨i + 1, p + 6, Lib.hid (by have := HP.out; omega), by go_num, by rw [HTK.out]; exact hown4, hbw.trans hb4, by have := HG.out; omega⟩
    · have hln := HN3.out
      have hp := HP.out
      have i1 : ¬ (p : Int) < 8 * (l.length : Int) := by omega
      have hown0 : Own w.heap.size u3 (Go.Proofs.YtlhpncpihbpkoaaDoor.u3 l ++ List.replicate 0 61) wr := by
        have e : (n3 l).take i = n3 l := List.take_of_length_le (by omega)
        rw [e, ← u3_n3] at hown
        simpa using hown
      have hul := u3_len l
      obtain ⟨P, hP⟩ : ∃ P, P = (if l.length % 3 = 0 then 0 else 3 - l.length % 3) := ⟨_, rfl⟩
      have he : e3 l = Go.Proofs.YtlhpncpihbpkoaaDoor.u3 l ++ List.replicate P 61 := by rw [e3_u3, padL_rep, ← hP]
      have hP3 : ∀ m, m ≤ P → (((Go.Proofs.YtlhpncpihbpkoaaDoor.u3 l).length + m) % 4 = 0 ↔ m = P) := by
        intro m hm
        rw [hul]
        exact pad_ok l.length m P hP hm
      have hPle : P ≤ 2 := by rw [hP]; exact pad_le l.length
      have HE := Lib.hid he; have HP3 := Lib.hid hP3; have HU := Lib.hid hul
      clear he hP3 hul hP hln hp hown hg hlt HN3
      go_wp2
      go_loopg [3] P (fun gk s3 wx => ∃ m : Nat, Own w.heap.size s3 (Go.Proofs.YtlhpncpihbpkoaaDoor.u3 l ++ List.replicate m 61) wx ∧ Below w.heap.size w wx ∧ m + gk = P)
      case atStart => exact ⟨0, hown0, hbw, by omega⟩
      case round =>
        obtain ⟨m, hown, hbw2, hm⟩ := hrel
        obtain ⟨A, c2, rfl⟩ := hown.shape
        have hL := HP3.out m (by omega)
        have hlb : (Go.Proofs.YtlhpncpihbpkoaaDoor.u3 l ++ List.replicate m 61).length ≤ 4000000 := by have := HU.out; rw [List.length_append, List.length_replicate, this]; omega
        have hLs : (Go.Proofs.YtlhpncpihbpkoaaDoor.u3 l ++ List.replicate m 61).length = (Go.Proofs.YtlhpncpihbpkoaaDoor.u3 l).length + m := by simp
        rw [← hLs] at hL
        by_cases hmP : m = P
        · have h4 := hL.2 hmP
          have hfin : e3 l = Go.Proofs.YtlhpncpihbpkoaaDoor.u3 l ++ List.replicate m 61 := by rw [HE.out, hmP]
          have htx := own_text hown
          generalize hLL : (Go.Proofs.YtlhpncpihbpkoaaDoor.u3 l ++ List.replicate m 61) = Z at hown hlb hLs hL h4 hfin htx
          have h4i : ((Z.length : Int) % 4 != 0) = false := by simp; omega
          have h4j : (Z.length : Int) % 4 = 0 := by omega
          have HF := Lib.hid hfin
          clear hfin hLs hL h4 hLL hmP hm hz
          go_wp2
          go_ret
          exact ⟨by rw [HF.out]; rfl, hbw2⟩
        · obtain ⟨g2, rfl⟩ : ∃ g2, gk = g2 + 1 := ⟨gk - 1, by omega⟩
          have h4 : ¬ (Go.Proofs.YtlhpncpihbpkoaaDoor.u3 l ++ List.replicate m 61).length % 4 = 0 := fun h => hmP (hL.1 h)
          have hnext : (Go.Proofs.YtlhpncpihbpkoaaDoor.u3 l ++ List.replicate m 61) ++ [61] = Go.Proofs.YtlhpncpihbpkoaaDoor.u3 l ++ List.replicate (m + 1) 61 := by rw [List.append_assoc, List.replicate_succ']
          generalize hLL : (Go.Proofs.YtlhpncpihbpkoaaDoor.u3 l ++ List.replicate m 61) = Z at hown hlb hLs hL h4 hnext
          have h4i : ((Z.length : Int) % 4 != 0) = true := by simp; omega
          have h4j : ¬ (Z.length : Int) % 4 = 0 := by omega
          have HNX := Lib.hid hnext
          have HM := Lib.hid hm
          clear hnext hLs hL h4 hLL hmP hm hz
          go_wp2_with (first
            | (at_builtin; refine own_append rfl _ _ rfl w.heap.size _ Z 61 _ _ (by rfl) (by rfl) hown hbw2.size (by omega) rfl ?_; intro v4 w4 hown4 hb4)
            | fail)
          go_roundg g2
          case measure => omega
          case rel => exact ⟨m + 1, by rw [← HNX.out]; exact hown4, hbw2.trans hb4, by have := HM.out; omega⟩
end Go.Proofs.YtlhpncpihbpkoaaDoor
