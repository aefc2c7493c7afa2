/- base.squeeze, walked: the text without its blanks and without what may stand at its end. Conditions: the text is short (100000 bytes); Go's tables of UTF-8 lie as their initialisers lay them. -/
import Derived.Test.YtlhpncpihbpkoaaDoorRune2
import Derived.Test.YtlhpncpihbpkoaaDoorBase1
import Derived.Test.YtlhpncpihbpkoaaDoorShelfB
import Derived.Test.YtlhpncpihbpkoaaDoorUrl0
import Derived.WalkKit
import Derived.Lib.Hide
import Derived.Deep.DeepMust
namespace Go.Proofs.YtlhpncpihbpkoaaDoor
open Go.RowKit

/-- Go's two tables of UTF-8 lie as their initialisers lay them. -/
def TabU (w : World) : Prop := Lib.Utf8Tabs 1 2 w

theorem fB_fits (x : Nat) (h : x ≤ 1114111) : -2147483648 ≤ fB x ∧ fB x ≤ 2147483647 := by
  unfold fB
  split <;> omega
theorem map_any (s : ByteArray) (w : World) (hs : s.size ≤ 100000) (hT : TabU w) :
    Calls Tryd.prog 44 #[.func (.func 45) #[] #[], .string s] w fun e w' => e = .returned (.string (bs (Lib.mapD fB s.data.toList))) ∧ Below w.heap.size w w' :=
  Tryd.strings_Map_grows 45 #[] (enters_of Tryd.func45 (by kernel_rfl) rfl) fB s w (by omega) (fun W x _ _ => drops_any x W) fB_fits hT

theorem suffix_one (l : List UInt8) : Lib.hasSuffix l [61] = decide (l.getLast? = some 61) := by
  unfold Lib.hasSuffix
  rw [Bool.eq_iff_iff, List.isSuffixOf_iff_suffix, decide_eq_true_eq]
  constructor
  · rintro ⟨r, rfl⟩; simp
  · intro h
    have hne : l ≠ [] := by intro e; subst e; cases h
    rw [List.getLast?_eq_some_getLast hne] at h
    exact ⟨l.dropLast, by rw [← Option.some.inj h]; exact List.dropLast_concat_getLast hne⟩
theorem cut_last (l : List UInt8) : (bs l).extract 0 (l.length - 1) = bs l.dropLast := by
  have e : ((bs l).extract 0 (l.length - 1)).data.toList = (bs l.dropLast).data.toList := by
    rw [Lib.extract_data, bs_list, bs_list, List.dropLast_eq_take]
    simp
  exact WideShapes.bytes_inj e

set_option maxHeartbeats 2000000 in
set_option maxRecDepth 100000 in
theorem squeeze_any (s : ByteArray) (w : World) (hs : s.size ≤ 100000) (hT : TabU w) :
    Calls Tryd.prog 37 #[.string s] w fun e w' => e = .returned (.string (bs (strip (Lib.mapD fB s.data.toList)))) ∧ Below w.heap.size w w' := by
  have hlen : (Lib.mapD fB s.data.toList).length ≤ 400000 := by
    have := map_len s.data.toList
    have e : s.data.toList.length = s.size := Array.length_toList
    omega
  have hm := map_any s w hs hT
  generalize Lib.mapD fB s.data.toList = l at hlen hm
  have HM := Lib.hid hm
  clear hm hT
  go_enter Tryd.func37, Tryd.ntmps37
  go_wp2_with (go_at_call 44; refine HM.out.mono ?_; rintro e w2 ⟨rfl, hb⟩)
  go_loopw [0, 3] (fun s0 s3 wx => ∃ c : List UInt8, s0 = .string (bs c) ∧ wx = w2 ∧ ((s3 = .int .i64 0 ∧ c = l) ∨ (s3 = .int .i64 1 ∧ c = l.dropLast ∧ l.length % 4 = 0 ∧ l.getLast? = some 61) ∨ (s3 = .int .i64 2 ∧ c = strip l))) (fun _ s3 _ => (2 - intOf s3).toNat)
  case atStart => exact ⟨l, rfl, rfl, Or.inl ⟨rfl, rfl⟩⟩
  case round =>
    obtain ⟨c, rfl, rfl, h | h | h⟩ := hrel
    · obtain ⟨rfl, rfl⟩ := h
      have hz : ((bs c).size : Int) = (c.length : Int) := by rw [bs_size]
      have hsf : Lib.hasSuffix (bs c).data.toList [61] = decide (c.getLast? = some 61) := suffix_one c
      by_cases h4 : c.length % 4 = 0
      · have h4' : ((c.length : Int) % 4 == 0) = true := by rw [beq_iff_eq]; omega
        have h4'' : (c.length : Int) % 4 = 0 := by omega
        by_cases hl : c.getLast? = some 61
        · rw [decide_eq_true hl] at hsf
          have hne : 1 ≤ c.length := by cases c; cases hl; simp
          have b1 : (1 : Int) ≤ (c.length : Int) := by omega
          have b2 : (c.length : Int) - 1 ≤ (c.length : Int) := by omega
          have hcut := cut_last c
          have H4 := Lib.hid h4
          have HL := Lib.hid hl
          clear h4 hl
          go_wp2_with (go_at_call 47; refine (Tryd.strings_HasSuffix _ _ _ (by rw [bs_size]; first | omega | (simp; omega))).mono ?_; rintro e w3 ⟨rfl, rfl⟩)
          go_roundw
          case rel => exact ⟨c.dropLast, rfl, (by first | rfl | trivial), Or.inr (Or.inl ⟨rfl, rfl, H4.out, HL.out⟩)⟩
          case measure => simp [intOf]
        · rw [decide_eq_false hl] at hsf
          have hst : strip c = c := by unfold strip; rw [if_neg (fun h => hl h.2)]
          clear hl
          go_wp2_with (go_at_call 47; refine (Tryd.strings_HasSuffix _ _ _ (by rw [bs_size]; first | omega | (simp; omega))).mono ?_; rintro e w3 ⟨rfl, rfl⟩)
          go_ret
          exact ⟨by rw [hst]; rfl, hb⟩
      · have h4' : ((c.length : Int) % 4 == 0) = false := by rw [beq_eq_false_iff_ne]; omega
        have h4'' : ¬ (c.length : Int) % 4 = 0 := by omega
        have hst : strip c = c := by unfold strip; rw [if_neg (fun h => h4 h.1)]
        clear hsf h4
        go_wp2_with (go_at_call 47; refine (Tryd.strings_HasSuffix _ _ _ (by rw [bs_size]; first | omega | (simp; omega))).mono ?_; rintro e w3 ⟨rfl, rfl⟩)
        go_ret
        exact ⟨by rw [hst]; rfl, hb⟩
    · obtain ⟨rfl, rfl, h4, hl⟩ := h
      have hne : 1 ≤ l.length := by cases l; cases hl; simp
      have hd : l.dropLast.length = l.length - 1 := by simp
      have hst0 : strip l = if l.dropLast.getLast? = some 61 then l.dropLast.dropLast else l.dropLast := by unfold strip; rw [if_pos ⟨h4, hl⟩]
      have h3 : l.dropLast.length % 4 = 3 := by omega
      generalize hc : l.dropLast = c at hst0 h3 ⊢
      have hc4 : c.length ≤ 400000 := by rw [← hc]; omega
      clear hc hd hne h4 hl
      have hz : ((bs c).size : Int) = (c.length : Int) := by rw [bs_size]
      have hsf : Lib.hasSuffix (bs c).data.toList [61] = decide (c.getLast? = some 61) := suffix_one c
      have h4' : ((c.length : Int) % 4 == 3) = true := by rw [beq_iff_eq]; omega
      have h4'' : (c.length : Int) % 4 = 3 := by omega
      have b1 : (1 : Int) ≤ (c.length : Int) := by omega
      have b2 : (c.length : Int) - 1 ≤ (c.length : Int) := by omega
      have hcut := cut_last c
      clear h3
      by_cases hl : c.getLast? = some 61
      · rw [decide_eq_true hl] at hsf
        rw [if_pos hl] at hst0
        have HS := Lib.hid hst0
        clear hl hst0
        go_wp2_with (go_at_call 47; refine (Tryd.strings_HasSuffix _ _ _ (by rw [bs_size]; first | omega | (simp; omega))).mono ?_; rintro e w3 ⟨rfl, rfl⟩)
        go_roundw
        case rel => exact ⟨c.dropLast, rfl, (by first | rfl | trivial), Or.inr (Or.inr ⟨rfl, HS.out.symm⟩)⟩
        case measure => simp [intOf]
      · rw [decide_eq_false hl] at hsf
        rw [if_neg hl] at hst0
        have HS := Lib.hid hst0
        clear hl hst0 hcut
        go_wp2_with (go_at_call 47; refine (Tryd.strings_HasSuffix _ _ _ (by rw [bs_size]; first | omega | (simp; omega))).mono ?_; rintro e w3 ⟨rfl, rfl⟩)
        go_ret
        exact ⟨congrArg (fun z => Ending.returned (.string (bs z))) HS.out.symm, hb⟩
    · obtain ⟨rfl, rfl⟩ := h
      go_wp2
      go_ret
      exact ⟨rfl, hb⟩
end Go.Proofs.YtlhpncpihbpkoaaDoor
