/- The reference's small functions: Decimal, port, Few, Path: walked. -/
import Derived.Test.YtlhpncpihbpkoaaDoorUrl2
import Derived.WalkKit
import Derived.Lib.Hide
import Derived.Deep.DeepMust
namespace Go.Proofs.YtlhpncpihbpkoaaDoor
open Go.RowKit

/-- 'string([]byte..)' of one byte. -/
theorem run_one_byte (x : Int) (W : World) : (convert 35 9 (.slice (some ⟨W.heap.size, 0, none⟩) 1 1)).run Tryd.prog (W.alloc (.cells #[.int .u8 x] 5)) = .ok (.string (strOfNums [x])) (W.alloc (.cells #[.int .u8 x] 5)) :=
  run_convert_bytes_arg _ 35 5 Tryd.underlying35 Tryd.underlying5 W.heap.size 0 1 1 [x] rfl (fun i hi => by
    obtain rfl : i = 0 := by simp at hi; omega
    simp) 9 Tryd.underlying9
theorem one_str (x : Int) : strOfNums [x] = bs [UInt8.ofNat x.toNat] := rfl

theorem dec_small {n : Int} (h0 : 0 ≤ n) (h : n ≤ 9) : bs [UInt8.ofNat (48 + n % 10).toNat] = bs (Lib.decDigits n.toNat) := by
  rw [Lib.decDigits_one (by omega), show (48 + n % 10).toNat = 48 + n.toNat by omega]
theorem dec_step {n : Int} (h0 : 0 ≤ n) (h : ¬ n ≤ 9) : bs (Lib.decDigits (n / 10).toNat) ++ bs [UInt8.ofNat (48 + n % 10).toNat] = bs (Lib.decDigits n.toNat) := by
  rw [bs_append, show Lib.decDigits n.toNat = _ from by rw [Lib.decDigits, dif_neg (show ¬ n.toNat < 10 by omega)], show (n / 10).toNat = n.toNat / 10 by omega, show (48 + n % 10).toNat = 48 + n.toNat % 10 by omega]

theorem dec_len (n : Int) (hn : n < 18446744073709551616) : (bs (Lib.decDigits n.toNat)).size ≤ 20 := by
  rw [bs_size, Lib.decDigits_length]
  exact Lib.nDigits_le20 _ (by omega)

set_option maxHeartbeats 1000000 in
set_option maxRecDepth 100000 in
theorem decimal_any (d : Nat) : ∀ (n : Int) (w : World), n ≤ d → 0 ≤ n → n < 18446744073709551616 →
    Calls Tryd.prog 41 #[.int .u64 n] w fun e w' => e = .returned (.string (bs (Lib.decDigits n.toNat))) ∧ Below w.heap.size w w' := by
  induction d with
  | zero =>
    intro n w hd h0 hn
    have hcv := run_one_byte
    go_enter Tryd.func41, Tryd.ntmps41
    go_wp2_with fail
    go_ret
    exact ⟨congrArg (fun b => Ending.returned (.string b)) (dec_small h0 (by omega)), (Below.refl _ _).alloc (Nat.le_refl _) _⟩
  | succ d ih =>
    intro n w hd h0 hn
    have hcv := run_one_byte
    by_cases h9 : n ≤ 9
    · clear ih
      go_enter Tryd.func41, Tryd.ntmps41
      go_wp2_with fail
      go_ret
      exact ⟨congrArg (fun b => Ending.returned (.string b)) (dec_small h0 (by omega)), (Below.refl _ _).alloc (Nat.le_refl _) _⟩
    · have IH := Lib.hid ih
      have hl := dec_len (n / 10) (by omega)
      have hs1 : ∀ x : Int, (strOfNums [x]).size = 1 := fun x => strOfNums_size _
      clear ih
      go_enter Tryd.func41, Tryd.ntmps41
      go_wp2_with (first
        | (go_at_call 41; refine (IH.out (n / 10) _ (by omega) (by omega) (by omega)).mono ?_; rintro e w2 ⟨rfl, hb2⟩)
        | fail)
      go_ret
      exact ⟨congrArg (fun b => Ending.returned (.string b)) (dec_step h0 (by omega)), ((Below.refl _ _).alloc (Nat.le_refl _) _).trans (hb2.mono (by simp))⟩

set_option maxHeartbeats 1000000 in
set_option maxRecDepth 100000 in
theorem port_any (n : Int) (w : World) (h0 : -9223372036854775808 ≤ n) (h1 : n ≤ 9223372036854775807) :
    Calls Tryd.prog 29 #[.int .i64 n] w fun e w' => e = .returned (.string (bs (Lib.itoa n))) ∧ Below w.heap.size w w' := by
  by_cases hn : n < 0
  · have e1 : IntKind.u64.wrap (-(n + 1)) = -(n + 1) := by rw [IntKind.wrap_u64]; omega
    have hl := dec_len (-n) (by omega)
    have hd := fun W => decimal_any (-n).toNat (-n) W (by omega) (by omega) (by omega)
    have HD := Lib.hid hd
    clear hd
    go_enter Tryd.func29, Tryd.ntmps29
    go_wp2_with (first
      | (go_at_call 41; rw [show (-(n + 1) + 1) = -n by omega]; refine (HD.out _).mono ?_; rintro e w2 ⟨rfl, hb2⟩)
      | fail)
    go_ret
    refine ⟨ret_str ?_, hb2⟩
    unfold Lib.itoa
    rw [if_pos hn, list_append, bs_list, bs_list, show (-n).toNat = n.natAbs by omega]
    rfl
  · have hd := fun W => decimal_any n.toNat n W (by omega) (by omega) (by omega)
    have HD := Lib.hid hd
    clear hd
    go_enter Tryd.func29, Tryd.ntmps29
    go_wp2_with (first
      | (go_at_call 41; refine (HD.out _).mono ?_; rintro e w2 ⟨rfl, hb2⟩)
      | fail)
    go_ret
    refine ⟨congrArg (fun b => Ending.returned (.string (bs b))) ?_, hb2⟩
    unfold Lib.itoa
    rw [if_neg (by omega)]

/-! ### Few -/
def urlSum (sc us pa ho tx qu fr : ByteArray) (ps : List ByteArray) : Nat := sc.size + us.size + pa.size + ho.size + tx.size + qu.size + fr.size + sumSizes ps

theorem sumSizes_bound (ps : List ByteArray) (M : Nat) (h : ∀ s ∈ ps, s.size ≤ M) : sumSizes ps ≤ ps.length * M := by
  induction ps with
  | nil => simp [sumSizes]
  | cons s r ih =>
    have h1 := h s (by simp)
    have h2 := ih (fun t ht => h t (by simp [ht]))
    simp only [sumSizes, List.length_cons, Nat.add_mul]
    omega

set_option maxHeartbeats 2000000 in
set_option maxRecDepth 100000 in
theorem few_any (sc us pa ho tx qu fr : ByteArray) (hh op hq hf : Bool) (po : Int) (A : Option Addr) (ps : List ByteArray) (c : Nat) (w : World) (hp : TextsAt w A ps)
    (h1 : sc.size ≤ 140737488351232) (h2 : us.size ≤ 140737488351232) (h3 : pa.size ≤ 140737488351232) (h4 : ho.size ≤ 140737488351232) (h5 : tx.size ≤ 140737488351232) (h6 : qu.size ≤ 140737488351232) (h7 : fr.size ≤ 140737488351232)
    (h8 : ∀ s ∈ ps, s.size ≤ 140737488351232) :
    Calls Tryd.prog 13 #[.agg #[.string sc, .string us, .string pa, .string ho, .bool hh, .int .i64 po, .bool op, .string tx, .slice A ps.length c, .bool hq, .bool hf, .string qu, .string fr]] w
      fun e w' => e = .returned (.bool (decide (urlSum sc us pa ho tx qu fr ps ≤ 1000 ∧ ps.length ≤ 50))) ∧ Below w.heap.size w w' := by
  obtain ⟨w1, hw1⟩ : ∃ w1, w1 = w.alloc (.cells #[.string sc, .string us, .string pa, .string ho, .bool hh, .int .i64 po, .bool op, .string tx, .slice A ps.length c, .bool hq, .bool hf, .string qu, .string fr] 24) := ⟨_, rfl⟩
  have hp1 : TextsAt w1 A ps := by rw [hw1]; exact hp.alloc _
  have hbel : Below w.heap.size w w1 := by rw [hw1]; exact (Below.refl _ _).alloc (Nat.le_refl _) _
  have HP := Lib.hid hp1
  have hcnt := hp.1
  have H8 := Lib.hid h8
  have HW := Lib.hid hw1
  have hc8 : w1.cell? ⟨w.heap.size, 8, none⟩ = some (.slice A ps.length c) := by rw [hw1]; simp
  clear hp1 hp h8
  go_enter Tryd.func13, Tryd.ntmps13
  go_wp2_with fail
  rw [← hw1]
  clear hw1
  go_loop [3, 4, 35] (fun n kv i => ∃ (k : Nat) (x : Int), k ≤ ps.length ∧ i = .int .i64 k ∧ n = .int .i64 x ∧ (ps.length ≤ 50 → x = ((sc.size + us.size + pa.size + ho.size + tx.size + qu.size + fr.size + sumSizes (ps.take k) : Nat) : Int))) (fun _ _ i => ps.length - (intOf i).toNat)
  case atStart => exact ⟨0, _, Nat.zero_le _, rfl, rfl, fun _ => by simp [sumSizes]⟩
  case round =>
    obtain ⟨k, x, hk, rfl, rfl, hx⟩ := hrel
    have HX := Lib.hid hx
    clear hx
    by_cases hlt : k < ps.length
    · obtain ⟨ad, rfl, hc⟩ := (HP.out).2 (by omega)
      have hck := hc k hlt
      have hle := H8.out (ps.getD k ByteArray.empty) (by rw [List.getD_eq_getElem?_getD, List.getElem?_eq_getElem hlt]; exact List.getElem_mem hlt)
      have hnx : sumSizes (ps.take (k + 1)) = sumSizes (ps.take k) + (ps.getD k ByteArray.empty).size := by rw [take_snoc' ps k hlt, sumSizes_append]; simp [sumSizes]
      obtain ⟨s, hs'⟩ : ∃ s, s = ps.getD k ByteArray.empty := ⟨_, rfl⟩
      rw [← hs'] at hck hle hnx
      clear hc hs'
      have HN := Lib.hid hnx
      clear hnx
      go_wp2_with fail
      go_round
      case rel =>
        refine ⟨k + 1, _, by omega, by go_num, rfl, fun h50 => ?_⟩
        have e := HX.out h50
        have b1 := sumSizes_bound ps _ H8.out
        have b2 := sumSizes_take_le ps (k + 1)
        have b3 : ps.length * 140737488351232 ≤ 50 * 140737488351232 := Nat.mul_le_mul_right _ h50
        rw [HN.out] at b2 ⊢
        rw [e]
        unfold wrap64
        omega
      case measure => simp [intOf]; omega
    · obtain rfl : k = ps.length := by omega
      rw [List.take_length] at HX
      by_cases h50 : ps.length ≤ 50
      · have e := HX.out h50
        by_cases ht : urlSum sc us pa ho tx qu fr ps ≤ 1000
        all_goals
          have ht' := ht
          unfold urlSum at ht'
          obtain ⟨y, hy⟩ : ∃ y, y = sc.size + us.size + pa.size + ho.size + tx.size + qu.size + fr.size + sumSizes ps := ⟨_, rfl⟩
          rw [← hy] at e ht'
          subst e
          clear hy HX
          go_wp2_with fail
          go_ret
          exact ⟨congrArg (fun b => Ending.returned (.bool b)) (by first | (simp [ht, h50]; done) | (simp [ht, h50]; omega)), hbel⟩
      · go_wp2_with fail
        all_goals
          go_ret
          exact ⟨congrArg (fun b => Ending.returned (.bool b)) (by first | (simp [h50]; done) | (simp [h50]; omega)), hbel⟩
end Go.Proofs.YtlhpncpihbpkoaaDoor
