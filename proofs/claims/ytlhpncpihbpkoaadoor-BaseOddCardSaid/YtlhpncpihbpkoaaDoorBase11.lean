/- The reference's Decode, walked: it answers 'dec'. Condition: the text is short (100000 bytes). -/
import Derived.Test.YtlhpncpihbpkoaaDoorBase6
import Derived.Test.YtlhpncpihbpkoaaDoorBase12
import Derived.Test.YtlhpncpihbpkoaaDoorConv
import Derived.WalkKit
import Derived.Lib.Hide
import Derived.Deep.LoopGhost
import Derived.Deep.DeepCutAuto
import Derived.Deep.DeepMust
namespace Go.Proofs.YtlhpncpihbpkoaaDoor
open Go.RowKit

theorem blank_five {c : UInt8} (h : blankB c = false) : ((c.toNat : Int) != 9) = true ∧ ((c.toNat : Int) != 10) = true ∧ ((c.toNat : Int) != 12) = true ∧ ((c.toNat : Int) != 13) = true ∧ ((c.toNat : Int) != 32) = true := by
  have hn : ∀ n : Nat, (n = 9 ∨ n = 10 ∨ n = 12 ∨ n = 13 ∨ n = 32) → ¬ c.toNat = n := by
    intro n hn e
    have eb : c = UInt8.ofNat n := by rw [← e]; simp
    rw [eb] at h
    rcases hn with rfl | rfl | rfl | rfl | rfl <;> exact absurd h (by decide)
  have h1 := hn 9 (by simp); have h2 := hn 10 (by simp); have h3 := hn 12 (by simp); have h4 := hn 13 (by simp); have h5 := hn 32 (by simp)
  refine ⟨?_, ?_, ?_, ?_, ?_⟩ <;> (rw [bne_iff_ne]; omega)
theorem take_filter (l : List UInt8) (k : Nat) (c : UInt8) (hc : l[k]? = some c) : (l.take (k + 1)).filter (fun c => !blankB c) = (l.take k).filter (fun c => !blankB c) ++ (if blankB c then [] else [c]) := by
  rw [List.take_add_one, hc, List.filter_append]
  cases h : blankB c <;> simp [h]

set_option maxHeartbeats 4000000 in
set_option maxRecDepth 100000 in
theorem rdecode_any (s : ByteArray) (w : World) (hs : s.size ≤ 100000) :
    Calls Tryd.prog 28 #[.string s] w fun e w' => ∃ v, e = .returned (.tuple #[v, .bool (dec s.data.toList).isSome]) ∧ Own w.heap.size v ((dec s.data.toList).getD []) w' ∧ Below w.heap.size w w' := by
  obtain ⟨l, hl⟩ : ∃ l, l = s.data.toList := ⟨_, rfl⟩
  have hsb : s = bs l := by rw [hl]; exact (WideShapes.bytes_inj rfl)
  have hll : l.length ≤ 100000 := by rw [hl]; have e : s.data.toList.length = s.size := Array.length_toList; omega
  rw [← hl]
  subst hsb
  clear hl hs
  have hz : ((bs l).size : Int) = (l.length : Int) := by rw [bs_size]
  go_enter Tryd.func28, Tryd.ntmps28
  go_wp2
  go_loopg [4, 15] l.length (fun gk s4 s15 wx => ∃ k : Nat, s15 = .int .i64 k ∧ Own w.heap.size s4 ((l.take k).filter (fun c => !blankB c)) wx ∧ Below w.heap.size w wx ∧ k + gk = l.length)
  case atStart => exact ⟨0, rfl, Own.nil _ _, Below.refl _ _, by omega⟩
  case round =>
    obtain ⟨k, rfl, hown, hbw, hk⟩ := hrel
    by_cases hlt : k < l.length
    · obtain ⟨g2, rfl⟩ : ∃ g2, gk = g2 + 1 := ⟨gk - 1, by omega⟩
      have i1 : (k : Int) < (l.length : Int) := by omega
      have i2 : (0 : Int) ≤ (k : Int) := by omega
      obtain ⟨c, hc⟩ : ∃ c, l[k]? = some c := ⟨l[k], by simp [hlt]⟩
      have hidx : ∀ h, (bs l)[k]'h = c := by intro h; rw [List.getElem?_eq_getElem hlt] at hc; exact Option.some.inj hc
      have htf := take_filter l k c hc
      have HK := Lib.hid hk; have HLT := Lib.hid hlt
      have hzl : ((l.take k).filter (fun c => !blankB c)).length ≤ 100000 := Nat.le_trans (List.length_filter_le _ _) (by rw [List.length_take]; omega)
      generalize (l.take k).filter (fun c => !blankB c) = Z at hown htf hzl
      cases hb : blankB c
      · rw [hb, if_neg (by simp)] at htf
        obtain ⟨b1, b2, b3, b4, b5⟩ := blank_five hb
        have HTF := Lib.hid htf
        clear htf hc hk hlt hb
        go_wp2_with (first
          | (at_builtin; refine own_append rfl _ _ rfl w.heap.size _ Z c _ _ (by rfl) (by rfl) hown hbw.size (by omega) rfl ?_; intro v4 w4 hown4 hb4)
          | fail)
        go_roundg g2
        case measure => omega
        case rel => exact ⟨k + 1, by go_num, by rw [HTF.out]; exact hown4, hbw.trans hb4, by have := HK.out; omega⟩
      · rw [hb, if_pos rfl, List.append_nil] at htf
        have HTF := Lib.hid htf
        clear htf hc hk hlt
        unfold blankB at hb
        simp only [Bool.or_eq_true, beq_iff_eq] at hb
        rcases hb with (((rfl | rfl) | rfl) | rfl) | rfl
        all_goals
          go_wp2
          go_roundg g2
          case measure => omega
          case rel => exact ⟨k + 1, by go_num, by rw [HTF.out]; exact hown, hbw, by have := HK.out; omega⟩
    · have hfull : (l.take k).filter (fun c => !blankB c) = l.filter (fun c => !blankB c) := by rw [List.take_of_length_le (by omega)]
      rw [hfull] at hown
      have hdec : dec l = core (strip (l.filter (fun c => !blankB c))) := rfl
      have hzl : (l.filter (fun c => !blankB c)).length ≤ 100000 := Nat.le_trans (List.length_filter_le _ _) hll
      have i1 : ¬ (k : Int) < (l.length : Int) := by omega
      generalize l.filter (fun c => !blankB c) = Z at hown hdec hzl
      obtain ⟨A, c2, rfl, hby⟩ := own_bytes hown
      have HD := Lib.hid hdec
      have HBY := Lib.hid hby
      clear hdec hfull hby hk hlt hown hll
      go_upto_region 10 with (fail)
      go_cut [60] (fun s60 wx => s60 = .bool (decide (Z.length % 4 = 0 ∧ Z.getLast? = some 61)) ∧ wx = wr)
      case first =>
        rcases Nat.eq_zero_or_pos Z.length with h0 | h0
        · obtain rfl := List.eq_nil_of_length_eq_zero h0
          go_wp2
          go_meet
          exact ⟨rfl, rfl⟩
        · have n0 : (0 : Int) < (Z.length : Int) := by omega
          by_cases h4 : Z.length % 4 = 0
          · have h4b : ((Z.length : Int) % 4 == 0) = true := by rw [beq_iff_eq]; omega
            have h4i : (Z.length : Int) % 4 = 0 := by omega
            obtain ⟨b, o, rfl, hc⟩ := HBY.out.2 h0
            obtain ⟨x, hx⟩ : ∃ x, Z[Z.length - 1]? = some x := ⟨Z[Z.length - 1], by simp⟩
            have hlast : Z.getLast? = some x := by rw [List.getLast?_eq_getElem?]; exact hx
            have hcell := hc _ x hx
            have n1 : (0 : Int) ≤ (Z.length : Int) - 1 := by omega
            have n2 : (Z.length : Int) - 1 < (Z.length : Int) := by omega
            have n3 : ((Z.length : Int) - 1).toNat = Z.length - 1 := by omega
            have HX := Lib.hid hlast
            clear hc hx hlast
            by_cases hx61 : x = 61
            · subst hx61
              have HH4 := Lib.hid h4
              clear h4 h0
              go_wp2
              go_meet
              exact ⟨by rw [decide_eq_true ⟨HH4.out, HX.out⟩], rfl⟩
            · have hxb : ((x.toNat : Int) == 61) = false := by
                rw [beq_eq_false_iff_ne]
                intro e
                apply hx61
                apply UInt8.toNat_inj.1
                show x.toNat = 61
                omega
              have hxb2 : ¬ (x.toNat : Int) = 61 := by simpa using hxb
              have HX61 := Lib.hid hx61
              clear hx61 h4 h0
              go_wp2
              go_meet
              exact ⟨by rw [decide_eq_false (fun h => HX61.out (Option.some.inj (HX.out.symm.trans h.2)))], rfl⟩
          · have h4b : ((Z.length : Int) % 4 == 0) = false := by rw [beq_eq_false_iff_ne]; omega
            have h4i : ¬ (Z.length : Int) % 4 = 0 := by omega
            have HH4 := Lib.hid h4
            clear h4 h0
            go_wp2
            go_meet
            exact ⟨by rw [decide_eq_false (fun h => HH4.out h.1)], rfl⟩
      case rest =>
        obtain ⟨rfl, rfl⟩ := hcut
        go_upto_if 60 with (fail)
        go_cut [4] (fun s4 wx => s4 = .slice A (strip Z).length c2 ∧ wx = wc)
        case first =>
          by_cases hc : Z.length % 4 = 0 ∧ Z.getLast? = some 61
          · have hne : Z ≠ [] := by intro e; subst e; simp at hc
            have hpos : 0 < Z.length := List.length_pos_iff.2 hne
            have h4 : 4 ≤ Z.length := by have := hc.1; omega
            have hcap := HBY.out.1
            obtain ⟨b, o, rfl, hcl⟩ := HBY.out.2 hpos
            obtain ⟨x, hx⟩ : ∃ x, Z[Z.length - 2]? = some x := ⟨Z[Z.length - 2], by simp⟩
            have hlast := dropLast_last Z (by omega)
            rw [hx] at hlast
            have hcell := hcl _ x hx
            have n1 : (1 : Int) ≤ (Z.length : Int) := by omega
            have n2 : (Z.length : Int) - 1 ≤ (c2 : Int) := by omega
            have n3 : (2 : Int) ≤ (Z.length : Int) := by omega
            have n4 : (Z.length : Int) - 2 ≤ (c2 : Int) := by omega
            have n5 : (Z.length : Int) - 2 < ((Z.length - 1 : Nat) : Int) := by omega
            have n6 : ((Z.length : Int) - 2).toNat = Z.length - 2 := by omega
            have n7 : (0 : Int) ≤ (Z.length : Int) - 2 := by omega
            have HC := Lib.hid hc; have HX := Lib.hid hlast
            rw [decide_eq_true hc]
            clear hc hlast hx hcl hpos h4 hcap hne
            by_cases hx61 : x = 61
            · subst hx61
              go_wp2
              go_meet
              exact ⟨by rw [strip_two Z HC.out HX.out, List.length_dropLast, List.length_dropLast]; rfl, rfl⟩
            · have hxb : ((x.toNat : Int) == 61) = false := by
                rw [beq_eq_false_iff_ne]
                intro e
                apply hx61
                apply UInt8.toNat_inj.1
                show x.toNat = 61
                omega
              have hxb2 : ¬ (x.toNat : Int) = 61 := by simpa using hxb
              have HX61 := Lib.hid hx61
              clear hx61
              go_wp2
              go_meet
              exact ⟨by rw [strip_one Z HC.out (by rw [HX.out]; intro e; exact HX61.out (Option.some.inj e)), List.length_dropLast], rfl⟩
          · rw [decide_eq_false hc]
            have HC := Lib.hid hc
            clear hc
            go_wp2
            go_meet
            exact ⟨by rw [strip_no Z HC.out], rfl⟩
        case rest =>
          obtain ⟨rfl, rfl⟩ := hcut
          obtain ⟨hs1, hs2⟩ := strip_pre Z
          have hbl := HBY.out.take (strip Z).length
          rw [← hs1] at hbl
          have hdc := HD.out
          have hll2 : (strip Z).length ≤ 100000 := by omega
          clear HD HBY hs1 hs2 hzl
          generalize strip Z = L at hbl hdc hll2
          have HBL := Lib.hid hbl
          clear hbl
          by_cases h4 : L.length % 4 = 1
          · have h4b : ((L.length : Int) % 4 == 1) = true := by rw [beq_iff_eq]; omega
            have h4i : (L.length : Int) % 4 = 1 := by omega
            have HD := Lib.hid (hdc.trans (core_short L h4))
            clear hdc h4
            go_wp2
            go_ret2
            rw [HD.out]
            exact ⟨_, rfl, Own.nil _ _, hbw⟩
          · have h4b : ((L.length : Int) % 4 == 1) = false := by rw [beq_eq_false_iff_ne]; omega
            have h4i : ¬ (L.length : Int) % 4 = 1 := by omega
            obtain ⟨m, hm⟩ : ∃ m, m = 6 * L.length / 8 := ⟨_, rfl⟩
            have hmi : 6 * (L.length : Int) / 8 = (m : Int) := by omega
            have hmk := make_bytes m (by omega)
            have HM := Lib.hid hm; have HH4 := Lib.hid h4; have HDC := Lib.hid hdc
            clear hm h4 hdc
            go_wp2
            go_loopg [86] L.length (fun gk s86 wx => ∃ k2 : Nat, s86 = .int .i64 k2 ∧ Own w.heap.size (.slice (some ⟨wc.heap.size, 0, none⟩) m m) (outL (fL L) m (6 * k2)) wx ∧ Below wc.heap.size wc wx ∧ k2 + gk = L.length ∧ Hid (∀ c ∈ L.take k2, numB c ≠ none))
            case atStart => exact ⟨0, rfl, by rw [Nat.mul_zero, outL_zero]; exact Own.made _ _ _ hbw.size (by have := HM.out; omega), (Below.refl _ _).alloc (Nat.le_refl _) _, by omega, Lib.hid (by simp)⟩
            case round =>
              obtain ⟨k2, rfl, hown, hbw2, hk2, HJ⟩ := hrel
              by_cases hlt : k2 < L.length
              · obtain ⟨g2, rfl⟩ : ∃ g2, gk = g2 + 1 := ⟨gk - 1, by omega⟩
                obtain ⟨c, hc⟩ : ∃ c, L[k2]? = some c := ⟨L[k2], by simp [hlt]⟩
                obtain ⟨b, o, rfl, hcl⟩ := HBL.out.2 (by omega)
                have hcell0 := hcl _ c hc
                have hcell := (hbw2.cell (p := ⟨b, o + k2, none⟩) (by have := World.block_lt_of_cell? wc _ hcell0; simpa using this)).trans hcell0
                have i2 : (k2 : Int) < (L.length : Int) := by omega
                have i3 : (0 : Int) ≤ (k2 : Int) := by omega
                have HC := Lib.hid hc; have HLT := Lib.hid hlt; have HK2 := Lib.hid hk2
                clear hc hcl hcell0 hlt hk2
                cases hn : numB c with
                | none =>
                  have hD : core L = none := core_none (List.mem_of_getElem? HC.out) hn
                  have HD := Lib.hid (HDC.out.trans hD)
                  clear hD
                  go_wp2_with (go_at_call 40; refine (rnumber_any c _).mono ?_; rintro e w2 ⟨rfl, rfl⟩; rw [numZ_none hn])
                  go_ret2
                  rw [HD.out]
                  exact ⟨_, rfl, Own.nil _ _, hbw.trans (hbw2.mono hbw.size)⟩
                | some x =>
                  have hx64 := (num_some hn).1
                  have hx0 : ¬ (x : Int) < 0 := by omega
                  go_wp2_with (go_at_call 40; refine (rnumber_any c _).mono ?_; rintro e w2 ⟨rfl, rfl⟩; rw [numZ_some hn])
                  go_loopw [96] (fun s96 wx => ∃ i : Nat, s96 = .int .i64 i ∧ i ≤ 6 ∧ Own w.heap.size (.slice (some ⟨wc.heap.size, 0, none⟩) m m) (outL (fL L) m (6 * k2 + i)) wx ∧ Below wc.heap.size wc wx) (fun s96 _ => (6 - intOf s96).toNat)
                  case atStart => exact ⟨0, rfl, by omega, hown, hbw2⟩
                  case round =>
                    obtain ⟨i, rfl, hi, hown3, hbw3⟩ := hrel
                    by_cases hi6 : i < 6
                    · obtain ⟨P, hP⟩ : ∃ P, P = 6 * k2 + i := ⟨_, rfl⟩
                      rw [← hP] at hown3
                      have hPI : 6 * (k2 : Int) + (i : Int) = (P : Int) := by omega
                      have hP0 : (P : Int) ≤ 1000000 := by have := HLT.out; omega
                      have f1 : (i : Int) < 6 := by omega
                      have f2 : (0 : Int) ≤ (i : Int) := by omega
                      have hbit : fL L P = x / 2 ^ (5 - i) % 2 := by unfold fL; rw [hP, show (6 * k2 + i) / 6 = k2 by omega, show (6 * k2 + i) % 6 = i by omega, List.getD_eq_getElem?_getD, HC.out, Option.getD_some, nL_some hn]
                      have HBIT := Lib.hid hbit; have HP := Lib.hid hP; have HN := Lib.hid hn; have HI6 := Lib.hid hi6
                      clear hbit hP hn hi6 hcell hown
                      go_upto_region 27 with (fail)
                      go_cut [116] (fun s116 wx => s116 = .bool (decide (P < 8 * m ∧ fL L P = 1)) ∧ wx = wr)
                      case first =>
                        by_cases hPm : P < 8 * m
                        · have g1 : (P : Int) < 8 * (m : Int) := by omega
                          have hm6 : i = 0 ∨ i = 1 ∨ i = 2 ∨ i = 3 ∨ i = 4 ∨ i = 5 := by have := HI6.out; omega
                          have HPM := Lib.hid hPm
                          clear hPm
                          rcases hm6 with hm6 | hm6 | hm6 | hm6 | hm6 | hm6
                          · have ki : (i : Int) = 0 := by omega
                            have hbt : fL L P = x / 32 % 2 := by rw [HBIT.out, hm6]
                            have hlow := low1i ((x : Int) / 32) (by omega) (by omega)
                            have HBT := Lib.hid hbt
                            clear hm6 hbt
                            by_cases hb1 : x / 32 % 2 = 1
                            · have hb : (bits .and .i64 ((x : Int) / 32) 1 == 1) = true := by rw [hlow, beq_iff_eq]; omega
                              have hb2 : (bits .and .i64 ((x : Int) / 32) 1 = 1) := by rw [hlow]; omega
                              have HB1 := Lib.hid hb1
                              clear hb1 hlow
                              go_wp2
                              go_meet
                              exact ⟨by rw [decide_eq_true ⟨HPM.out, HBT.out.trans HB1.out⟩], rfl⟩
                            · have hb : (bits .and .i64 ((x : Int) / 32) 1 == 1) = false := by rw [hlow, beq_eq_false_iff_ne]; omega
                              have hb2 : ¬ (bits .and .i64 ((x : Int) / 32) 1 = 1) := by rw [hlow]; omega
                              have HB1 := Lib.hid hb1
                              clear hb1 hlow
                              go_wp2
                              go_meet
                              exact ⟨by rw [decide_eq_false (fun h => HB1.out (HBT.out.symm.trans h.2))], rfl⟩
                          · have ki : (i : Int) = 1 := by omega
                            have hbt : fL L P = x / 16 % 2 := by rw [HBIT.out, hm6]
                            have hlow := low1i ((x : Int) / 16) (by omega) (by omega)
                            have HBT := Lib.hid hbt
                            clear hm6 hbt
                            by_cases hb1 : x / 16 % 2 = 1
                            · have hb : (bits .and .i64 ((x : Int) / 16) 1 == 1) = true := by rw [hlow, beq_iff_eq]; omega
                              have hb2 : (bits .and .i64 ((x : Int) / 16) 1 = 1) := by rw [hlow]; omega
                              have HB1 := Lib.hid hb1
                              clear hb1 hlow
                              go_wp2
                              go_meet
                              exact ⟨by rw [decide_eq_true ⟨HPM.out, HBT.out.trans HB1.out⟩], rfl⟩
                            · have hb : (bits .and .i64 ((x : Int) / 16) 1 == 1) = false := by rw [hlow, beq_eq_false_iff_ne]; omega
                              have hb2 : ¬ (bits .and .i64 ((x : Int) / 16) 1 = 1) := by rw [hlow]; omega
                              have HB1 := Lib.hid hb1
                              clear hb1 hlow
                              go_wp2
                              go_meet
                              exact ⟨by rw [decide_eq_false (fun h => HB1.out (HBT.out.symm.trans h.2))], rfl⟩
                          · have ki : (i : Int) = 2 := by omega
                            have hbt : fL L P = x / 8 % 2 := by rw [HBIT.out, hm6]
                            have hlow := low1i ((x : Int) / 8) (by omega) (by omega)
                            have HBT := Lib.hid hbt
                            clear hm6 hbt
                            by_cases hb1 : x / 8 % 2 = 1
                            · have hb : (bits .and .i64 ((x : Int) / 8) 1 == 1) = true := by rw [hlow, beq_iff_eq]; omega
                              have hb2 : (bits .and .i64 ((x : Int) / 8) 1 = 1) := by rw [hlow]; omega
                              have HB1 := Lib.hid hb1
                              clear hb1 hlow
                              go_wp2
                              go_meet
                              exact ⟨by rw [decide_eq_true ⟨HPM.out, HBT.out.trans HB1.out⟩], rfl⟩
                            · have hb : (bits .and .i64 ((x : Int) / 8) 1 == 1) = false := by rw [hlow, beq_eq_false_iff_ne]; omega
                              have hb2 : ¬ (bits .and .i64 ((x : Int) / 8) 1 = 1) := by rw [hlow]; omega
                              have HB1 := Lib.hid hb1
                              clear hb1 hlow
                              go_wp2
                              go_meet
                              exact ⟨by rw [decide_eq_false (fun h => HB1.out (HBT.out.symm.trans h.2))], rfl⟩
                          · have ki : (i : Int) = 3 := by omega
                            have hbt : fL L P = x / 4 % 2 := by rw [HBIT.out, hm6]
                            have hlow := low1i ((x : Int) / 4) (by omega) (by omega)
                            have HBT := Lib.hid hbt
                            clear hm6 hbt
                            by_cases hb1 : x / 4 % 2 = 1
                            · have hb : (bits .and .i64 ((x : Int) / 4) 1 == 1) = true := by rw [hlow, beq_iff_eq]; omega
                              have hb2 : (bits .and .i64 ((x : Int) / 4) 1 = 1) := by rw [hlow]; omega
                              have HB1 := Lib.hid hb1
                              clear hb1 hlow
                              go_wp2
                              go_meet
                              exact ⟨by rw [decide_eq_true ⟨HPM.out, HBT.out.trans HB1.out⟩], rfl⟩
                            · have hb : (bits .and .i64 ((x : Int) / 4) 1 == 1) = false := by rw [hlow, beq_eq_false_iff_ne]; omega
                              have hb2 : ¬ (bits .and .i64 ((x : Int) / 4) 1 = 1) := by rw [hlow]; omega
                              have HB1 := Lib.hid hb1
                              clear hb1 hlow
                              go_wp2
                              go_meet
                              exact ⟨by rw [decide_eq_false (fun h => HB1.out (HBT.out.symm.trans h.2))], rfl⟩
                          · have ki : (i : Int) = 4 := by omega
                            have hbt : fL L P = x / 2 % 2 := by rw [HBIT.out, hm6]
                            have hlow := low1i ((x : Int) / 2) (by omega) (by omega)
                            have HBT := Lib.hid hbt
                            clear hm6 hbt
                            by_cases hb1 : x / 2 % 2 = 1
                            · have hb : (bits .and .i64 ((x : Int) / 2) 1 == 1) = true := by rw [hlow, beq_iff_eq]; omega
                              have hb2 : (bits .and .i64 ((x : Int) / 2) 1 = 1) := by rw [hlow]; omega
                              have HB1 := Lib.hid hb1
                              clear hb1 hlow
                              go_wp2
                              go_meet
                              exact ⟨by rw [decide_eq_true ⟨HPM.out, HBT.out.trans HB1.out⟩], rfl⟩
                            · have hb : (bits .and .i64 ((x : Int) / 2) 1 == 1) = false := by rw [hlow, beq_eq_false_iff_ne]; omega
                              have hb2 : ¬ (bits .and .i64 ((x : Int) / 2) 1 = 1) := by rw [hlow]; omega
                              have HB1 := Lib.hid hb1
                              clear hb1 hlow
                              go_wp2
                              go_meet
                              exact ⟨by rw [decide_eq_false (fun h => HB1.out (HBT.out.symm.trans h.2))], rfl⟩
                          · have ki : (i : Int) = 5 := by omega
                            have hbt : fL L P = x / 1 % 2 := by rw [HBIT.out, hm6]
                            have hlow := low1i ((x : Int)) (by omega) (by omega)
                            have HBT := Lib.hid hbt
                            clear hm6 hbt
                            by_cases hb1 : x / 1 % 2 = 1
                            · have hb : (bits .and .i64 ((x : Int)) 1 == 1) = true := by rw [hlow, beq_iff_eq]; omega
                              have hb2 : (bits .and .i64 ((x : Int)) 1 = 1) := by rw [hlow]; omega
                              have HB1 := Lib.hid hb1
                              clear hb1 hlow
                              go_wp2
                              go_meet
                              exact ⟨by rw [decide_eq_true ⟨HPM.out, HBT.out.trans HB1.out⟩], rfl⟩
                            · have hb : (bits .and .i64 ((x : Int)) 1 == 1) = false := by rw [hlow, beq_eq_false_iff_ne]; omega
                              have hb2 : ¬ (bits .and .i64 ((x : Int)) 1 = 1) := by rw [hlow]; omega
                              have HB1 := Lib.hid hb1
                              clear hb1 hlow
                              go_wp2
                              go_meet
                              exact ⟨by rw [decide_eq_false (fun h => HB1.out (HBT.out.symm.trans h.2))], rfl⟩
                        · have g1 : ¬ (P : Int) < 8 * (m : Int) := by omega
                          have HPM := Lib.hid hPm
                          clear hPm
                          go_wp2
                          go_meet
                          exact ⟨by rw [decide_eq_false (fun h => HPM.out h.1)], rfl⟩
                      case rest =>
                        obtain ⟨rfl, rfl⟩ := hcut
                        by_cases hst : P < 8 * m ∧ fL L P = 1
                        · rw [decide_eq_true hst]
                          obtain ⟨q, hq⟩ : ∃ q, q = P / 8 := ⟨_, rfl⟩
                          have kq : (P : Int) / 8 = (q : Int) := by omega
                          have g2 : (q : Int) < (m : Int) := by have := hst.1; omega
                          have g3 : (0 : Int) ≤ (q : Int) := by omega
                          have hqm : q < m := by omega
                          obtain ⟨V, hV⟩ : ∃ V, V = valF (fL L) q P := ⟨_, rfl⟩
                          obtain ⟨r, hr⟩ : ∃ r, r = P % 8 := ⟨_, rfl⟩
                          have hpart := valF_part (fL L) (fL_lt L) q r (by omega)
                          rw [show 8 * q + r = P by omega, ← hV] at hpart
                          have hset := outL_set (fL L) m P hst.1 hst.2
                          rw [← hq, ← hr, ← hV] at hset
                          have hget := hown3.get q _ (outL_at (fL L) m P q hqm)
                          rw [← hV, show (UInt8.ofNat V).toNat = V by simp; omega] at hget
                          have hfr := hown3.free q
                          have HSET := Lib.hid hset; have HST := Lib.hid hst; have HQ := Lib.hid hq; have HV := Lib.hid hV; have HR := Lib.hid hr
                          have hr8 : r = 0 ∨ r = 1 ∨ r = 2 ∨ r = 3 ∨ r = 4 ∨ r = 5 ∨ r = 6 ∨ r = 7 := by omega
                          have kr : (P : Int) % 8 = (r : Int) := by omega
                          clear hset hst hq hV hr
                          rcases hr8 with rfl | rfl | rfl | rfl | rfl | rfl | rfl | rfl
                          · have kr2 : (P : Int) % 8 = 0 := kr
                            have hor : bits .or .u8 (V : Int) 128 = ((V + 128 : Nat) : Int) := bor_at V 0 128 (by decide) hpart.1 hpart.2 (by decide)
                            clear kr
                            go_wp2
                            go_roundw
                            case rel => exact ⟨i + 1, by go_num, by have := HI6.out; omega, by rw [← Nat.add_assoc, ← HP.out, HSET.out]; exact hown3.set q _ _ (bnew_at V 0 128 hpart.1 hpart.2 (by decide)), hbw3.setCell (by simp) _⟩
                            case measure => have := HI6.out; simp [intOf]; omega
                          · have kr2 : (P : Int) % 8 = 1 := kr
                            have hor : bits .or .u8 (V : Int) 64 = ((V + 64 : Nat) : Int) := bor_at V 1 64 (by decide) hpart.1 hpart.2 (by decide)
                            clear kr
                            go_wp2
                            go_roundw
                            case rel => exact ⟨i + 1, by go_num, by have := HI6.out; omega, by rw [← Nat.add_assoc, ← HP.out, HSET.out]; exact hown3.set q _ _ (bnew_at V 1 64 hpart.1 hpart.2 (by decide)), hbw3.setCell (by simp) _⟩
                            case measure => have := HI6.out; simp [intOf]; omega
                          · have kr2 : (P : Int) % 8 = 2 := kr
                            have hor : bits .or .u8 (V : Int) 32 = ((V + 32 : Nat) : Int) := bor_at V 2 32 (by decide) hpart.1 hpart.2 (by decide)
                            clear kr
                            go_wp2
                            go_roundw
                            case rel => exact ⟨i + 1, by go_num, by have := HI6.out; omega, by rw [← Nat.add_assoc, ← HP.out, HSET.out]; exact hown3.set q _ _ (bnew_at V 2 32 hpart.1 hpart.2 (by decide)), hbw3.setCell (by simp) _⟩
                            case measure => have := HI6.out; simp [intOf]; omega
                          · have kr2 : (P : Int) % 8 = 3 := kr
                            have hor : bits .or .u8 (V : Int) 16 = ((V + 16 : Nat) : Int) := bor_at V 3 16 (by decide) hpart.1 hpart.2 (by decide)
                            clear kr
                            go_wp2
                            go_roundw
                            case rel => exact ⟨i + 1, by go_num, by have := HI6.out; omega, by rw [← Nat.add_assoc, ← HP.out, HSET.out]; exact hown3.set q _ _ (bnew_at V 3 16 hpart.1 hpart.2 (by decide)), hbw3.setCell (by simp) _⟩
                            case measure => have := HI6.out; simp [intOf]; omega
                          · have kr2 : (P : Int) % 8 = 4 := kr
                            have hor : bits .or .u8 (V : Int) 8 = ((V + 8 : Nat) : Int) := bor_at V 4 8 (by decide) hpart.1 hpart.2 (by decide)
                            clear kr
                            go_wp2
                            go_roundw
                            case rel => exact ⟨i + 1, by go_num, by have := HI6.out; omega, by rw [← Nat.add_assoc, ← HP.out, HSET.out]; exact hown3.set q _ _ (bnew_at V 4 8 hpart.1 hpart.2 (by decide)), hbw3.setCell (by simp) _⟩
                            case measure => have := HI6.out; simp [intOf]; omega
                          · have kr2 : (P : Int) % 8 = 5 := kr
                            have hor : bits .or .u8 (V : Int) 4 = ((V + 4 : Nat) : Int) := bor_at V 5 4 (by decide) hpart.1 hpart.2 (by decide)
                            clear kr
                            go_wp2
                            go_roundw
                            case rel => exact ⟨i + 1, by go_num, by have := HI6.out; omega, by rw [← Nat.add_assoc, ← HP.out, HSET.out]; exact hown3.set q _ _ (bnew_at V 5 4 hpart.1 hpart.2 (by decide)), hbw3.setCell (by simp) _⟩
                            case measure => have := HI6.out; simp [intOf]; omega
                          · have kr2 : (P : Int) % 8 = 6 := kr
                            have hor : bits .or .u8 (V : Int) 2 = ((V + 2 : Nat) : Int) := bor_at V 6 2 (by decide) hpart.1 hpart.2 (by decide)
                            clear kr
                            go_wp2
                            go_roundw
                            case rel => exact ⟨i + 1, by go_num, by have := HI6.out; omega, by rw [← Nat.add_assoc, ← HP.out, HSET.out]; exact hown3.set q _ _ (bnew_at V 6 2 hpart.1 hpart.2 (by decide)), hbw3.setCell (by simp) _⟩
                            case measure => have := HI6.out; simp [intOf]; omega
                          · have kr2 : (P : Int) % 8 = 7 := kr
                            have hor : bits .or .u8 (V : Int) 1 = ((V + 1 : Nat) : Int) := bor_at V 7 1 (by decide) hpart.1 hpart.2 (by decide)
                            clear kr
                            go_wp2
                            go_roundw
                            case rel => exact ⟨i + 1, by go_num, by have := HI6.out; omega, by rw [← Nat.add_assoc, ← HP.out, HSET.out]; exact hown3.set q _ _ (bnew_at V 7 1 hpart.1 hpart.2 (by decide)), hbw3.setCell (by simp) _⟩
                            case measure => have := HI6.out; simp [intOf]; omega
                        · rw [decide_eq_false hst]
                          have hsame := outL_same (fL L) m P (by have := fL_lt L P; omega)
                          have HS := Lib.hid hsame
                          clear hst hsame
                          go_wp2
                          go_roundw
                          case rel => exact ⟨i + 1, by go_num, by have := HI6.out; omega, by rw [← Nat.add_assoc, ← HP.out, HS.out]; exact hown3, hbw3⟩
                          case measure => have := HI6.out; simp [intOf]; omega
                    · obtain rfl : i = 6 := by omega
                      have hj : ∀ c' ∈ L.take (k2 + 1), numB c' ≠ none := by
                        intro c' hc'
                        rw [List.take_add_one, HC.out] at hc'
                        rcases List.mem_append.1 hc' with h | h
                        · exact HJ.out c' h
                        · have : c' = c := by simpa using h
                          rw [this, hn]; simp
                      have HJ2 := Lib.hid hj
                      clear hj hi6 hn
                      go_wp2
                      go_roundg g2
                      case measure => omega
                      case rel => exact ⟨k2 + 1, by go_num, by rw [Nat.mul_add]; exact hown3, hbw3, by have := HK2.out; omega, HJ2⟩
              · obtain rfl : k2 = L.length := by omega
                have hall : ∀ c ∈ L, numB c ≠ none := by have := HJ.out; rwa [List.take_length] at this
                have hD := core_all L HH4.out hall
                rw [← HM.out] at hD
                have HD := Lib.hid (HDC.out.trans hD)
                clear hD hall hlt
                go_wp2
                go_ret2
                rw [HD.out]
                exact ⟨_, rfl, hown, hbw.trans (hbw2.mono hbw.size)⟩
end Go.Proofs.YtlhpncpihbpkoaaDoor
