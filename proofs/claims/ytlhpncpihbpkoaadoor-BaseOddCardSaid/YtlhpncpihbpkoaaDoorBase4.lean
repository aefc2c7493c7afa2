/- base.Decode, walked: it answers 'dec'. Conditions: the text is short (100000 bytes); Go's tables of UTF-8 lie as their initialisers lay them. -/
import Derived.Test.YtlhpncpihbpkoaaDoorBase2
import Derived.Test.YtlhpncpihbpkoaaDoorBase3
import Derived.Test.YtlhpncpihbpkoaaDoorOwn
import Derived.WalkKit
import Derived.Lib.Hide
import Derived.Deep.DeepMust
namespace Go.Proofs.YtlhpncpihbpkoaaDoor
open Go.RowKit

theorem index_letters : ∀ x : Fin 256, Lib.indexByte (⟨#[65, 66, 67, 68, 69, 70, 71, 72, 73, 74, 75, 76, 77, 78, 79, 80, 81, 82, 83, 84, 85, 86, 87, 88, 89, 90, 97, 98, 99, 100, 101, 102, 103, 104, 105, 106, 107, 108, 109, 110, 111, 112, 113, 114, 115, 116, 117, 118, 119, 120, 121, 122, 48, 49, 50, 51, 52, 53, 54, 55, 56, 57, 43, 47]⟩ : ByteArray).data.toList (x.val : Int).toNat.toUInt8 = (match numB (UInt8.ofNat x.val) with | some n => (n : Int) | none => -1) := by decide +kernel

theorem index_any (c : UInt8) (w : World) :
    Calls Tryd.prog 38 #[.string ⟨#[65, 66, 67, 68, 69, 70, 71, 72, 73, 74, 75, 76, 77, 78, 79, 80, 81, 82, 83, 84, 85, 86, 87, 88, 89, 90, 97, 98, 99, 100, 101, 102, 103, 104, 105, 106, 107, 108, 109, 110, 111, 112, 113, 114, 115, 116, 117, 118, 119, 120, 121, 122, 48, 49, 50, 51, 52, 53, 54, 55, 56, 57, 43, 47]⟩, .int .u8 c.toNat] w fun e w' => e = .returned (.int .i64 (match numB c with | some n => (n : Int) | none => -1)) ∧ w' = w := by
  refine (Tryd.strings_IndexByte _ _ w).mono ?_
  rintro e w' ⟨rfl, rfl⟩
  have := index_letters ⟨c.toNat, c.toNat_lt⟩
  simp only [UInt8.ofNat_toNat] at this
  rw [this]
  exact ⟨rfl, rfl⟩

theorem wraps62 (n : Int) (h₀ : 0 ≤ n) (h₁ : n < 2 ^ 62) : IntKind.u64.wrap n = n := by
  simp [IntKind.wrap, IntKind.bits, IntKind.signed]
  omega
theorem bits_in (b x : Nat) (hb : b < 65536) (hx : x < 64) : bits .or .u64 (bits .and .u64 ((b : Int) * 64) 65535) x = ((b * 64 % 65536 + x : Nat) : Int) := by
  have h1 := bits_mask .u64 62 (by decide) wraps62 16 (by decide) ((b : Int) * 64) (by omega) (by omega)
  have e : ((2 : Int) ^ 16 - 1) = 65535 := by decide
  rw [e] at h1
  rw [h1, bits_join .u64 62 (by decide) wraps62 6 _ (x : Int) (by omega) (by omega) (by omega) (by omega) (by omega) (by omega)]
  omega

set_option maxHeartbeats 2000000 in
set_option maxRecDepth 100000 in
theorem decode_any (s : ByteArray) (w : World) (hs : s.size ≤ 100000) (hT : TabU w) :
    Calls Tryd.prog 26 #[.string s] w fun e w' => ∃ v, e = .returned (.tuple #[v, .bool (dec s.data.toList).isSome]) ∧ Own w.heap.size v ((dec s.data.toList).getD []) w' ∧ Below w.heap.size w w' := by
  have hd := core_map s.data.toList
  have hlen : (Lib.mapD fB s.data.toList).length ≤ 400000 := by
    have := map_len s.data.toList
    have e : s.data.toList.length = s.size := Array.length_toList
    omega
  have hm := squeeze_any s w hs hT
  have hl2 : (strip (Lib.mapD fB s.data.toList)).length ≤ 400000 := by
    unfold strip
    split
    · split <;> simp <;> omega
    · exact hlen
  generalize strip (Lib.mapD fB s.data.toList) = l at hd hm hl2
  generalize dec s.data.toList = D at hd
  rw [core_go] at hd
  have HM := Lib.hid hm
  have HD := Lib.hid hd
  clear hm hT hd hlen
  have hz : ((bs l).size : Int) = (l.length : Int) := by rw [bs_size]
  go_enter Tryd.func26, Tryd.ntmps26
  by_cases h4 : l.length % 4 = 1
  · have h4' : ((l.length : Int) % 4 == 1) = true := by rw [beq_iff_eq]; omega
    have h4'' : (l.length : Int) % 4 = 1 := by omega
    have hn : D = none := by rw [← HD.out, if_pos h4]
    go_wp2_with (go_at_call 37; refine HM.out.mono ?_; rintro e w2 ⟨rfl, hb⟩)
    go_ret2
    rw [hn]
    exact ⟨_, rfl, Own.nil _ _, hb⟩
  · have h4' : ((l.length : Int) % 4 == 1) = false := by rw [beq_eq_false_iff_ne]; omega
    have h4'' : ¬ (l.length : Int) % 4 = 1 := by omega
    have hgo : goB 0 0 [] l = D := by rw [← HD.out, if_neg h4]
    have HG := Lib.hid hgo
    clear hgo h4
    go_wp2_with (go_at_call 37; refine HM.out.mono ?_; rintro e w2 ⟨rfl, hb⟩)
    go_loopw [4, 5, 6, 17] (fun s4 s5 s6 s17 wx => ∃ (k b n : Nat) (acc : List UInt8), s17 = .int .i64 k ∧ s5 = .int .u64 b ∧ s6 = .int .i64 n ∧ Own w.heap.size s4 acc wx ∧ Below w.heap.size w wx ∧ Hid (goB b n acc (l.drop k) = D) ∧ k ≤ l.length ∧ (n = 0 ∨ n = 2 ∨ n = 4 ∨ n = 6) ∧ acc.length ≤ k ∧ b < 65536) (fun _ _ _ s17 _ => (l.length - intOf s17).toNat)
    case atStart => exact ⟨0, 0, 0, [], rfl, rfl, rfl, Own.nil _ _, hb, HG, by omega, Or.inl rfl, by simp, by omega⟩
    case round =>
      obtain ⟨k, b, n, acc, rfl, rfl, rfl, hown, hbw, HR, hk, hn, ha, hb16⟩ := hrel
      by_cases hlt : k < l.length
      · have i1 : (k : Int) < (l.length : Int) := by omega
        have i2 : (0 : Int) ≤ (k : Int) := by omega
        obtain ⟨c, hc⟩ : ∃ c, l[k]? = some c := ⟨l[k], by simp [hlt]⟩
        have hdrop : l.drop k = c :: l.drop (k + 1) := by rw [List.drop_eq_getElem_cons hlt]; congr 1; rw [List.getElem?_eq_getElem hlt] at hc; exact Option.some.inj hc
        have hidx : ∀ h, (bs l)[k]'h = c := by intro h; rw [List.getElem?_eq_getElem hlt] at hc; exact Option.some.inj hc
        cases hx : numB c with
        | none =>
          have hD : D = none := by rw [← HR.out, hdrop, goB_none _ _ _ _ _ hx]
          go_wp2_with (go_at_call 38; refine (index_any _ _).mono ?_; rintro e w3 ⟨rfl, rfl⟩; rw [hx])
          go_ret2
          rw [hD]
          exact ⟨_, rfl, Own.nil _ _, hbw⟩
        | some x =>
          have hx64 := (num_some hx).1
          have hx0 : ¬ (x : Int) < 0 := by omega
          have hbits := bits_in b x hb16 hx64
          have hB : b * 64 % 65536 + x < 65536 := by omega
          rcases hn with rfl | hn
          · have hR2 : goB (b * 64 % 65536 + x) 6 acc (l.drop (k + 1)) = D := by rw [← HR.out, hdrop, goB_wait _ _ _ _ _ hx]
            generalize b * 64 % 65536 + x = b2 at hbits hB hR2
            have HR2 := Lib.hid hR2
            clear hR2 hdrop
            go_wp2_with (go_at_call 38; refine (index_any _ _).mono ?_; rintro e w3 ⟨rfl, rfl⟩; rw [hx])
            go_roundw
            case rel => exact ⟨k + 1, b2, 6, acc, by go_num, rfl, rfl, hown, hbw, HR2, by omega, by omega, by omega, hB⟩
            case measure => simp [intOf]; omega
          · have hR2 : goB (b * 64 % 65536 + x) (n - 2) (acc ++ [UInt8.ofNat ((b * 64 % 65536 + x) / 2 ^ (n - 2))]) (l.drop (k + 1)) = D := by rw [← HR.out, hdrop, goB_write _ _ _ _ _ _ hx (by omega)]
            generalize b * 64 % 65536 + x = b2 at hbits hB hR2
            have HR2 := Lib.hid hR2
            clear hR2 hdrop
            rcases hn with rfl | rfl | rfl
            · go_wp2_with (first
                | (go_at_call 38; refine (index_any _ _).mono ?_; rintro e w3 ⟨rfl, rfl⟩; rw [hx])
                | (at_builtin; refine own_append rfl _ _ rfl w.heap.size _ acc (UInt8.ofNat (b2 / 2 ^ (2 - 2))) _ _ (by simp) (by rfl) hown hbw.size (by omega) rfl ?_; intro v4 w4 hown4 hb4)
                | fail)
              go_roundw
              case rel => exact ⟨k + 1, b2, 0, _, by go_num, rfl, rfl, hown4, hbw.trans hb4, HR2, by omega, by omega, by simp; omega, hB⟩
              case measure => simp [intOf]; omega
            · go_wp2_with (first
                | (go_at_call 38; refine (index_any _ _).mono ?_; rintro e w3 ⟨rfl, rfl⟩; rw [hx])
                | (at_builtin; refine own_append rfl _ _ rfl w.heap.size _ acc (UInt8.ofNat (b2 / 2 ^ (4 - 2))) _ _ (by simp) (by rfl) hown hbw.size (by omega) rfl ?_; intro v4 w4 hown4 hb4)
                | fail)
              go_roundw
              case rel => exact ⟨k + 1, b2, 2, _, by go_num, rfl, rfl, hown4, hbw.trans hb4, HR2, by omega, by omega, by simp; omega, hB⟩
              case measure => simp [intOf]; omega
            · go_wp2_with (first
                | (go_at_call 38; refine (index_any _ _).mono ?_; rintro e w3 ⟨rfl, rfl⟩; rw [hx])
                | (at_builtin; refine own_append rfl _ _ rfl w.heap.size _ acc (UInt8.ofNat (b2 / 2 ^ (6 - 2))) _ _ (by simp) (by rfl) hown hbw.size (by omega) rfl ?_; intro v4 w4 hown4 hb4)
                | fail)
              go_roundw
              case rel => exact ⟨k + 1, b2, 4, _, by go_num, rfl, rfl, hown4, hbw.trans hb4, HR2, by omega, by omega, by simp; omega, hB⟩
              case measure => simp [intOf]; omega
      · obtain rfl : k = l.length := by omega
        have hD : D = some acc := by rw [← HR.out, List.drop_length]; rfl
        go_wp2
        go_ret2
        rw [hD]
        exact ⟨_, rfl, hown, hbw⟩
end Go.Proofs.YtlhpncpihbpkoaaDoor
