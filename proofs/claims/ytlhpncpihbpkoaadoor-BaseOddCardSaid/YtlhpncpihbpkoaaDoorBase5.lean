/- base.Encode, walked: it answers 'e3'. Condition: the bytes lie where the slice says; they are at most a million. -/
import Derived.Test.YtlhpncpihbpkoaaDoorBuf2
import Derived.Test.YtlhpncpihbpkoaaDoorOwn
import Derived.Test.YtlhpncpihbpkoaaDoorBase0
import Derived.WalkKit
import Derived.Lib.Hide
import Derived.Laws.CopyOwn
import Derived.Laws.BitsLemmas
import Derived.Deep.LoopGhost
import Derived.Deep.DeepCutAuto
import Derived.Deep.DeepMust
namespace Go.Proofs.YtlhpncpihbpkoaaDoor
open Go.RowKit

/-- A slice of bytes that is read. -/
def BytesAt (w : World) (A : Option Addr) (l : List UInt8) (c : Nat) : Prop :=
  l.length ≤ c ∧ (0 < l.length → ∃ b o, A = some ⟨b, o, none⟩ ∧ ∀ j x, l[j]? = some x → w.cell? ⟨b, o + j, none⟩ = some (.int .u8 x.toNat))
theorem BytesAt.below {w w' : World} {A : Option Addr} {l : List UInt8} {c B : Nat} (h : BytesAt w A l c) (hB : w.heap.size ≤ B) (hb : Below B w w') : BytesAt w' A l c :=
  ⟨h.1, fun hn => by
    obtain ⟨b, o, e, hc⟩ := h.2 hn
    refine ⟨b, o, e, fun j x hj => ?_⟩
    have hlt := World.block_lt_of_cell? w _ (hc j x hj)
    exact (hb.cell (p := ⟨b, o + j, none⟩) (by simp at hlt ⊢; omega)).trans (hc j x hj)⟩

theorem BytesAt.src {w : World} {bk off c : Nat} {r : List UInt8} (h : BytesAt w (some ⟨bk, off, none⟩) r c) (m : Nat) (hm : m ≤ r.length) : ∀ j v, (Lib.byteCells (r.take m))[j]? = some v → w.cell? ((⟨bk, off, none⟩ : Addr).add j) = some v := by
  intro j v hv
  have hj : j < m := by
    have := (List.getElem?_eq_some_iff.1 hv).1
    simp [Lib.byteCells] at this
    omega
  obtain ⟨b, o, e, hc⟩ := h.2 (by omega)
  cases e
  obtain ⟨x, hx⟩ : ∃ x, r[j]? = some x := ⟨r[j], by simp⟩
  have e : (Lib.byteCells (r.take m))[j]? = some (.int .u8 x.toNat) := by
    unfold Lib.byteCells
    rw [List.getElem?_map, List.getElem?_take_of_lt hj, hx]
    rfl
  rw [e] at hv
  cases hv
  have := hc j x hx
  have e2 : ((⟨bk, off, none⟩ : Addr).add j) = ⟨bk, off + j, none⟩ := by unfold Addr.add; split <;> simp_all
  rw [e2]
  exact this
theorem BytesAt.drop {w : World} {bk off c : Nat} {r : List UInt8} (h : BytesAt w (some ⟨bk, off, none⟩) r c) (m : Nat) : BytesAt w (some ⟨bk, off + m, none⟩) (r.drop m) (c - m) := by
  refine ⟨by rw [List.length_drop]; have := h.1; omega, fun hn => ?_⟩
  rw [List.length_drop] at hn
  obtain ⟨b, o, e, hc⟩ := h.2 (by omega)
  cases e
  refine ⟨bk, off + m, rfl, fun j x hj => ?_⟩
  rw [List.getElem?_drop] at hj
  have := hc (m + j) x hj
  rwa [← Nat.add_assoc] at this

theorem byteOne : (Tryd.prog.info? 5).map (·.size) = some 1 := by kernel_rfl
theorem wraps62 (n : Int) (h₀ : 0 ≤ n) (h₁ : n < 2 ^ 62) : IntKind.u64.wrap n = n := by
  simp [IntKind.wrap, IntKind.bits, IntKind.signed]
  omega
theorem low6 (x : Int) (h0 : 0 ≤ x) (h1 : x < 16777216) : bits .and .u64 x 63 = x % 64 := by
  have h := bits_mask .u64 62 (by decide) wraps62 6 (by decide) x h0 (by omega)
  have e : ((2 : Int) ^ 6 - 1) = 63 := by decide
  rw [e] at h
  exact h
theorem three_in (a b c : UInt8) : bits .or .u64 (bits .or .u64 ((a.toNat : Int) * 65536) ((b.toNat : Int) * 256)) (c.toNat : Int) = ((a.toNat * 65536 + b.toNat * 256 + c.toNat : Nat) : Int) := by
  have ha := a.toNat_lt; have hb := b.toNat_lt; have hc := c.toNat_lt
  have h1 := bits_join .u64 62 (by decide) wraps62 16 ((a.toNat : Int) * 65536) ((b.toNat : Int) * 256) (by omega) (by omega) (by omega) (by omega) (by omega) (by omega)
  rw [h1]
  have h2 := bits_join .u64 62 (by decide) wraps62 8 ((a.toNat : Int) * 65536 + (b.toNat : Int) * 256) (c.toNat : Int) (by omega) (by omega) (by omega) (by omega) (by omega) (by omega)
  rw [h2]
  omega
theorem letter_at : ∀ n : Fin 64, (⟨#[65, 66, 67, 68, 69, 70, 71, 72, 73, 74, 75, 76, 77, 78, 79, 80, 81, 82, 83, 84, 85, 86, 87, 88, 89, 90, 97, 98, 99, 100, 101, 102, 103, 104, 105, 106, 107, 108, 109, 110, 111, 112, 113, 114, 115, 116, 117, 118, 119, 120, 121, 122, 48, 49, 50, 51, 52, 53, 54, 55, 56, 57, 43, 47]⟩ : ByteArray)[n.val]'n.isLt = letB n.val := by decide

theorem copy_in (w : World) (bk off c N m : Nat) (r : List UInt8) (h : BytesAt w (some ⟨bk, off, none⟩) r c) (hN : r.length = N) (hm : m = Nat.min N 3) (x0 x1 x2 : UInt8) (e : Lib.byteCells (r.take m) ++ [Value.int .u8 0, .int .u8 0, .int .u8 0].drop m = [.int .u8 x0.toNat, .int .u8 x1.toNat, .int .u8 x2.toNat]) :
    ∃ W, (Builtin.copy_ #[35, 35] 3 #[.slice (some ⟨w.heap.size, 0, none⟩) 3 3, .slice (some ⟨bk, off, none⟩) N c]).run Tryd.prog (w.alloc (.cells #[.int .u8 0, .int .u8 0, .int .u8 0] 56)) = .ok (.int .i64 m) W ∧
      W.cell? ⟨w.heap.size, 0, none⟩ = some (.int .u8 x0.toNat) ∧ W.cell? ⟨w.heap.size, 1, none⟩ = some (.int .u8 x1.toNat) ∧ W.cell? ⟨w.heap.size, 2, none⟩ = some (.int .u8 x2.toNat) ∧ Below w.heap.size w W := by
  have hb := (Below.refl w.heap.size w).alloc (Nat.le_refl _) (.cells #[.int .u8 0, .int .u8 0, .int .u8 0] 56)
  have h2 := (h.below (Nat.le_refl _) hb).src m (by rw [hN, hm]; exact Nat.min_le_left _ _)
  have hmN : m ≤ N := by rw [hm]; exact Nat.min_le_left _ _
  have hm3 : m ≤ 3 := by rw [hm]; exact Nat.min_le_right _ _
  have hl : (Lib.byteCells (r.take m)).length = m := by simp [Lib.byteCells, hN]; omega
  have hrun := run_copy_row (P := Tryd.prog) (w.alloc (.cells #[.int .u8 0, .int .u8 0, .int .u8 0] 56)) 35 35 3 5 w.heap.size 0 3 3 ⟨bk, off, none⟩ N c #[.int .u8 0, .int .u8 0, .int .u8 0] 56 (Lib.byteCells (r.take m)) Tryd.underlying35 byteOne
    (heap_alloc_new _ _) (by rw [hl, hm]) h2 (by rw [hl]; simpa using hm3) (by intro v hv; unfold Lib.byteCells at hv; obtain ⟨x, _, rfl⟩ := List.mem_map.1 hv; rfl)
  rw [hl] at hrun
  have er : (#[Value.int .u8 0, .int .u8 0, .int .u8 0] : Array Value).toList.take 0 ++ Lib.byteCells (r.take m) ++ (#[Value.int .u8 0, .int .u8 0, .int .u8 0] : Array Value).toList.drop (0 + m) = [.int .u8 x0.toNat, .int .u8 x1.toNat, .int .u8 x2.toNat] := by
    rw [← e]; simp
  rw [er] at hrun
  have hrow := setRow_heap (w.alloc (.cells #[.int .u8 0, .int .u8 0, .int .u8 0] 56)) w.heap.size #[.int .u8 0, .int .u8 0, .int .u8 0] #[.int .u8 x0.toNat, .int .u8 x1.toNat, .int .u8 x2.toNat] 56 (0, 0) (heap_alloc_new _ _)
  exact ⟨_, hrun, by rw [Lib.cell_of_heap hrow]; rfl, by rw [Lib.cell_of_heap hrow]; rfl, by rw [Lib.cell_of_heap hrow]; rfl, below_setRow hb (Nat.le_refl _) _⟩

theorem quarter (a b c : UInt8) (B : Nat) (hB : B = a.toNat * 65536 + b.toNat * 256 + c.toNat) :
    bits .and .u64 ((B : Int) / 262144) 63 = ((a.toNat / 4 : Nat) : Int) ∧ bits .and .u64 ((B : Int) / 4096) 63 = ((a.toNat % 4 * 16 + b.toNat / 16 : Nat) : Int) ∧ bits .and .u64 ((B : Int) / 64) 63 = ((b.toNat % 16 * 4 + c.toNat / 64 : Nat) : Int) ∧ bits .and .u64 (B : Int) 63 = ((c.toNat % 64 : Nat) : Int) := by
  have ha := a.toNat_lt; have hb := b.toNat_lt; have hc := c.toNat_lt
  refine ⟨?_, ?_, ?_, ?_⟩
  all_goals (rw [low6 _ (by omega) (by omega)]; omega)
theorem letter_at' (q : Nat) (hq : q < 64) : ∀ h, (⟨#[65, 66, 67, 68, 69, 70, 71, 72, 73, 74, 75, 76, 77, 78, 79, 80, 81, 82, 83, 84, 85, 86, 87, 88, 89, 90, 97, 98, 99, 100, 101, 102, 103, 104, 105, 106, 107, 108, 109, 110, 111, 112, 113, 114, 115, 116, 117, 118, 119, 120, 121, 122, 48, 49, 50, 51, 52, 53, 54, 55, 56, 57, 43, 47]⟩ : ByteArray)[q]'h = letB q := fun _ => letter_at ⟨q, hq⟩
theorem wrap_small (n : Nat) (h : n < 4611686018427387904) : IntKind.u64.wrap (n : Int) = (n : Int) := wraps62 _ (by omega) (by omega)
theorem wrap_shift (n : Nat) (k : Int) (h : n < 256) (h0 : 0 ≤ k) (h1 : k ≤ 65536) : IntKind.u64.wrap ((n : Int) * k) = (n : Int) * k := by
  have a : 0 ≤ (n : Int) * k := Int.mul_nonneg (by omega) h0
  have b : (n : Int) * k ≤ 255 * 65536 := Int.mul_le_mul (by omega) h1 h0 (by omega)
  exact wraps62 _ a (by omega)

set_option maxHeartbeats 4000000 in
set_option maxRecDepth 100000 in
theorem encode_some (bk off c : Nat) (l : List UInt8) (w : World) (hl : BytesAt w (some ⟨bk, off, none⟩) l c) (hz : l.length ≤ 1000000) :
    Calls Tryd.prog 25 #[.slice (some ⟨bk, off, none⟩) l.length c] w fun e w' => e = .returned (.string (bs (e3 l))) ∧ Below w.heap.size w w' := by
  have HL := Lib.hid hl
  clear hl
  go_enter Tryd.func25, Tryd.ntmps25
  go_wp2
  go_loopg [0] l.length (fun gk s0 wx => ∃ (N : Nat) (r : List UInt8) (off' c' : Nat) (acc : List UInt8), s0 = .slice (some ⟨bk, off', none⟩) N c' ∧ r.length = N ∧ Hid (BytesAt w (some ⟨bk, off', none⟩) r c') ∧ Wr w w.heap.size w.heap.size acc wx ∧ Hid (acc ++ e3 r = e3 l) ∧ N ≤ gk ∧ acc.length + 4 * N ≤ 4 * l.length + 4 ∧ N ≤ c')
  case atStart =>
    exact ⟨_, l, off, c, [], rfl, rfl, HL, Wr.fresh w, Lib.hid rfl, Nat.le_refl _, by simp, HL.out.1⟩
  case round =>
    obtain ⟨N, r, off', c', acc, rfl, hN, HB, hw, HE, hfu, hac, hrc⟩ := hrel
    match r, hN, HB, HE with
    | [], hN, HB, HE =>
      obtain rfl : N = 0 := by simpa using hN.symm
      have he : acc = e3 l := by have := HE.out; simpa [e3] using this
      go_wp2_with (first
        | (go_at_call 32; refine (wr_end hw).mono ?_; rintro e w9 ⟨rfl, hb9⟩)
        | fail)
      go_ret
      exact ⟨by first | rfl | (rw [he]; rfl), hb9⟩
    | [x0], hN, HB, HE =>
      obtain rfl : N = 1 := by simpa using hN.symm
      obtain ⟨g2, rfl⟩ : ∃ g2, gk = g2 + 1 := ⟨gk - 1, by omega⟩
      obtain ⟨W, hrun, d0, d1, d2, hbW⟩ := copy_in wr bk off' c' 1 1 ([x0]) (HB.out.below (Nat.le_refl _) hw.2.1) hN (by decide) x0 0 0 (by simp [Lib.byteCells])
      have hwW := hw.below hbW
      have hd := HB.out.drop 1
      obtain ⟨B, hB⟩ : ∃ B, B = (x0 : UInt8).toNat * 65536 + (0 : UInt8).toNat * 256 + (0 : UInt8).toNat := ⟨_, rfl⟩
      have hbits : bits .or .u64 (bits .or .u64 ((x0.toNat : Int) * 65536) 0) 0 = (B : Int) := by rw [hB]; exact three_in x0 0 0
      have v0 := x0.toNat_lt
      have w0 := wrap_small x0.toNat (by omega)
      have s0 := wrap_shift x0.toNat 65536 v0 (by omega) (by omega)
      obtain ⟨k0, hk0⟩ : ∃ k, k = x0.toNat / 4 := ⟨_, rfl⟩
      have q0 : bits .and .u64 ((B : Int) / 262144) 63 = (k0 : Int) := by rw [(quarter x0 0 0 B hB).1, hk0]; try rfl
      have u0 : k0 < 64 := by omega
      have n0 : (k0 : Int) < 64 := by omega
      have z0 : (0 : Int) ≤ (k0 : Int) := by omega
      have p0 := letter_at' k0 u0
      obtain ⟨k1, hk1⟩ : ∃ k, k = x0.toNat % 4 * 16 := ⟨_, rfl⟩
      have q1 : bits .and .u64 ((B : Int) / 4096) 63 = (k1 : Int) := by rw [(quarter x0 0 0 B hB).2.1, hk1]; try rfl
      have u1 : k1 < 64 := by omega
      have n1 : (k1 : Int) < 64 := by omega
      have z1 : (0 : Int) ≤ (k1 : Int) := by omega
      have p1 := letter_at' k1 u1
      obtain ⟨off2, hA2, hd2⟩ : ∃ off2, (if c' = 1 then (some ⟨bk, off', none⟩ : Option Addr) else some ⟨bk, off' + 1, none⟩) = some ⟨bk, off2, none⟩ ∧ BytesAt w (some ⟨bk, off2, none⟩) [] (c' - 1) := by
        by_cases hc : c' = 1
        · refine ⟨off', by rw [if_pos hc], ?_⟩
          exact ⟨by simp, fun h => by simp at h⟩
        · exact ⟨off' + 1, by rw [if_neg hc], hd⟩
      have HE2 : Hid ((acc ++ [letB k0, letB k1, 61, 61]) ++ e3 [] = e3 l) := by
        have h := HE.out
        show _ = _
        rw [← h]
        simp [e3, hk0, hk1]
      have HA2 := Lib.hid hA2
      have HD2 := Lib.hid hd2
      have HN := Lib.hid hN
      clear hB hk0 hk1 hA2 hd hd2 HE HB hw hN
      go_upto_region 7 with (fail)
      rw [HA2.out]
      go_wp2
      go_loopw [31] (fun s31 wx => (s31 = .int .i64 0 ∧ Wr w w.heap.size w.heap.size (acc) wx) ∨ (s31 = .int .i64 1 ∧ Wr w w.heap.size w.heap.size (acc ++ [letB k0]) wx) ∨ (s31 = .int .i64 2 ∧ Wr w w.heap.size w.heap.size (acc ++ [letB k0, letB k1]) wx) ∨ (s31 = .int .i64 3 ∧ Wr w w.heap.size w.heap.size (acc ++ [letB k0, letB k1, 61]) wx) ∨ (s31 = .int .i64 4 ∧ Wr w w.heap.size w.heap.size (acc ++ [letB k0, letB k1, 61, 61]) wx)) (fun s31 _ => (4 - intOf s31).toNat)
      case atStart => exact Or.inl ⟨rfl, hwW⟩
      case round =>
        rcases hrel with ⟨rfl, hw3⟩ | ⟨rfl, hw3⟩ | ⟨rfl, hw3⟩ | ⟨rfl, hw3⟩ | ⟨rfl, hw3⟩
        · go_wp2_with (first
            | (go_at_call 36; refine (wr_byte (c := letB k0) hw3 (by first | omega | (simp; omega))).mono ?_; rintro e w4 ⟨rfl, hw4⟩)
            | fail)
          go_roundw
          case rel => exact Or.inr (Or.inl ⟨rfl, by simpa using hw4⟩)
          case measure => simp [intOf]
        · go_wp2_with (first
            | (go_at_call 36; refine (wr_byte (c := letB k1) hw3 (by first | omega | (simp; omega))).mono ?_; rintro e w4 ⟨rfl, hw4⟩)
            | fail)
          go_roundw
          case rel => exact Or.inr (Or.inr (Or.inl ⟨rfl, by simpa using hw4⟩))
          case measure => simp [intOf]
        · go_wp2_with (first
            | (go_at_call 36; refine (wr_byte (c := 61) hw3 (by first | omega | (simp; omega))).mono ?_; rintro e w4 ⟨rfl, hw4⟩)
            | fail)
          go_roundw
          case rel => exact Or.inr (Or.inr (Or.inr (Or.inl ⟨rfl, by simpa using hw4⟩)))
          case measure => simp [intOf]
        · go_wp2_with (first
            | (go_at_call 36; refine (wr_byte (c := 61) hw3 (by first | omega | (simp; omega))).mono ?_; rintro e w4 ⟨rfl, hw4⟩)
            | fail)
          go_roundw
          case rel => exact Or.inr (Or.inr (Or.inr (Or.inr (⟨rfl, by simpa using hw4⟩))))
          case measure => simp [intOf]
        · go_wp2
          go_roundg g2
          case measure => omega
          case rel => exact ⟨0, [], off2, c' - 1, _, rfl, rfl, HD2, hw3, HE2, by omega, by simp; omega, by omega⟩
    | [x0, x1], hN, HB, HE =>
      obtain rfl : N = 2 := by simpa using hN.symm
      obtain ⟨g2, rfl⟩ : ∃ g2, gk = g2 + 1 := ⟨gk - 1, by omega⟩
      obtain ⟨W, hrun, d0, d1, d2, hbW⟩ := copy_in wr bk off' c' 2 2 ([x0, x1]) (HB.out.below (Nat.le_refl _) hw.2.1) hN (by decide) x0 x1 0 (by simp [Lib.byteCells])
      have hwW := hw.below hbW
      have hd := HB.out.drop 2
      obtain ⟨B, hB⟩ : ∃ B, B = (x0 : UInt8).toNat * 65536 + (x1 : UInt8).toNat * 256 + (0 : UInt8).toNat := ⟨_, rfl⟩
      have hbits : bits .or .u64 (bits .or .u64 ((x0.toNat : Int) * 65536) ((x1.toNat : Int) * 256)) 0 = (B : Int) := by rw [hB]; exact three_in x0 x1 0
      have v0 := x0.toNat_lt
      have w0 := wrap_small x0.toNat (by omega)
      have v1 := x1.toNat_lt
      have w1 := wrap_small x1.toNat (by omega)
      have s0 := wrap_shift x0.toNat 65536 v0 (by omega) (by omega)
      have s1 := wrap_shift x1.toNat 256 v1 (by omega) (by omega)
      obtain ⟨k0, hk0⟩ : ∃ k, k = x0.toNat / 4 := ⟨_, rfl⟩
      have q0 : bits .and .u64 ((B : Int) / 262144) 63 = (k0 : Int) := by rw [(quarter x0 x1 0 B hB).1, hk0]; try rfl
      have u0 : k0 < 64 := by omega
      have n0 : (k0 : Int) < 64 := by omega
      have z0 : (0 : Int) ≤ (k0 : Int) := by omega
      have p0 := letter_at' k0 u0
      obtain ⟨k1, hk1⟩ : ∃ k, k = x0.toNat % 4 * 16 + x1.toNat / 16 := ⟨_, rfl⟩
      have q1 : bits .and .u64 ((B : Int) / 4096) 63 = (k1 : Int) := by rw [(quarter x0 x1 0 B hB).2.1, hk1]; try rfl
      have u1 : k1 < 64 := by omega
      have n1 : (k1 : Int) < 64 := by omega
      have z1 : (0 : Int) ≤ (k1 : Int) := by omega
      have p1 := letter_at' k1 u1
      obtain ⟨k2, hk2⟩ : ∃ k, k = x1.toNat % 16 * 4 := ⟨_, rfl⟩
      have q2 : bits .and .u64 ((B : Int) / 64) 63 = (k2 : Int) := by rw [(quarter x0 x1 0 B hB).2.2.1, hk2]; try rfl
      have u2 : k2 < 64 := by omega
      have n2 : (k2 : Int) < 64 := by omega
      have z2 : (0 : Int) ≤ (k2 : Int) := by omega
      have p2 := letter_at' k2 u2
      obtain ⟨off2, hA2, hd2⟩ : ∃ off2, (if c' = 2 then (some ⟨bk, off', none⟩ : Option Addr) else some ⟨bk, off' + 2, none⟩) = some ⟨bk, off2, none⟩ ∧ BytesAt w (some ⟨bk, off2, none⟩) [] (c' - 2) := by
        by_cases hc : c' = 2
        · refine ⟨off', by rw [if_pos hc], ?_⟩
          exact ⟨by simp, fun h => by simp at h⟩
        · exact ⟨off' + 2, by rw [if_neg hc], hd⟩
      have HE2 : Hid ((acc ++ [letB k0, letB k1, letB k2, 61]) ++ e3 [] = e3 l) := by
        have h := HE.out
        show _ = _
        rw [← h]
        simp [e3, hk0, hk1, hk2]
      have HA2 := Lib.hid hA2
      have HD2 := Lib.hid hd2
      have HN := Lib.hid hN
      clear hB hk0 hk1 hk2 hA2 hd hd2 HE HB hw hN
      go_upto_region 7 with (fail)
      rw [HA2.out]
      go_wp2
      go_loopw [31] (fun s31 wx => (s31 = .int .i64 0 ∧ Wr w w.heap.size w.heap.size (acc) wx) ∨ (s31 = .int .i64 1 ∧ Wr w w.heap.size w.heap.size (acc ++ [letB k0]) wx) ∨ (s31 = .int .i64 2 ∧ Wr w w.heap.size w.heap.size (acc ++ [letB k0, letB k1]) wx) ∨ (s31 = .int .i64 3 ∧ Wr w w.heap.size w.heap.size (acc ++ [letB k0, letB k1, letB k2]) wx) ∨ (s31 = .int .i64 4 ∧ Wr w w.heap.size w.heap.size (acc ++ [letB k0, letB k1, letB k2, 61]) wx)) (fun s31 _ => (4 - intOf s31).toNat)
      case atStart => exact Or.inl ⟨rfl, hwW⟩
      case round =>
        rcases hrel with ⟨rfl, hw3⟩ | ⟨rfl, hw3⟩ | ⟨rfl, hw3⟩ | ⟨rfl, hw3⟩ | ⟨rfl, hw3⟩
        · go_wp2_with (first
            | (go_at_call 36; refine (wr_byte (c := letB k0) hw3 (by first | omega | (simp; omega))).mono ?_; rintro e w4 ⟨rfl, hw4⟩)
            | fail)
          go_roundw
          case rel => exact Or.inr (Or.inl ⟨rfl, by simpa using hw4⟩)
          case measure => simp [intOf]
        · go_wp2_with (first
            | (go_at_call 36; refine (wr_byte (c := letB k1) hw3 (by first | omega | (simp; omega))).mono ?_; rintro e w4 ⟨rfl, hw4⟩)
            | fail)
          go_roundw
          case rel => exact Or.inr (Or.inr (Or.inl ⟨rfl, by simpa using hw4⟩))
          case measure => simp [intOf]
        · go_wp2_with (first
            | (go_at_call 36; refine (wr_byte (c := letB k2) hw3 (by first | omega | (simp; omega))).mono ?_; rintro e w4 ⟨rfl, hw4⟩)
            | fail)
          go_roundw
          case rel => exact Or.inr (Or.inr (Or.inr (Or.inl ⟨rfl, by simpa using hw4⟩)))
          case measure => simp [intOf]
        · go_wp2_with (first
            | (go_at_call 36; refine (wr_byte (c := 61) hw3 (by first | omega | (simp; omega))).mono ?_; rintro e w4 ⟨rfl, hw4⟩)
            | fail)
          go_roundw
          case rel => exact Or.inr (Or.inr (Or.inr (Or.inr (⟨rfl, by simpa using hw4⟩))))
          case measure => simp [intOf]
        · go_wp2
          go_roundg g2
          case measure => omega
          case rel => exact ⟨0, [], off2, c' - 2, _, rfl, rfl, HD2, hw3, HE2, by omega, by simp; omega, by omega⟩
    | x0 :: x1 :: x2 :: r2, hN, HB, HE =>
      have hN3 : 3 ≤ N := by simp at hN; omega
      obtain ⟨g2, rfl⟩ : ∃ g2, gk = g2 + 1 := ⟨gk - 1, by omega⟩
      have i0 : (0 : Int) < (N : Int) := by omega
      have i3 : (3 : Int) ≤ (N : Int) := by omega
      have i4 : (N : Int) - 3 = ((N - 3 : Nat) : Int) := by omega
      obtain ⟨W, hrun, d0, d1, d2, hbW⟩ := copy_in wr bk off' c' N 3 (x0 :: x1 :: x2 :: r2) (HB.out.below (Nat.le_refl _) hw.2.1) hN (by show 3 = min N 3; omega) x0 x1 x2 (by simp [Lib.byteCells])
      have hwW := hw.below hbW
      have hd := HB.out.drop 3
      obtain ⟨B, hB⟩ : ∃ B, B = (x0 : UInt8).toNat * 65536 + (x1 : UInt8).toNat * 256 + (x2 : UInt8).toNat := ⟨_, rfl⟩
      have hbits : bits .or .u64 (bits .or .u64 ((x0.toNat : Int) * 65536) ((x1.toNat : Int) * 256)) (x2.toNat : Int) = (B : Int) := by rw [hB]; exact three_in x0 x1 x2
      have v0 := x0.toNat_lt
      have w0 := wrap_small x0.toNat (by omega)
      have v1 := x1.toNat_lt
      have w1 := wrap_small x1.toNat (by omega)
      have v2 := x2.toNat_lt
      have w2 := wrap_small x2.toNat (by omega)
      have s0 := wrap_shift x0.toNat 65536 v0 (by omega) (by omega)
      have s1 := wrap_shift x1.toNat 256 v1 (by omega) (by omega)
      obtain ⟨k0, hk0⟩ : ∃ k, k = x0.toNat / 4 := ⟨_, rfl⟩
      have q0 : bits .and .u64 ((B : Int) / 262144) 63 = (k0 : Int) := by rw [(quarter x0 x1 x2 B hB).1, hk0]; try rfl
      have u0 : k0 < 64 := by omega
      have n0 : (k0 : Int) < 64 := by omega
      have z0 : (0 : Int) ≤ (k0 : Int) := by omega
      have p0 := letter_at' k0 u0
      obtain ⟨k1, hk1⟩ : ∃ k, k = x0.toNat % 4 * 16 + x1.toNat / 16 := ⟨_, rfl⟩
      have q1 : bits .and .u64 ((B : Int) / 4096) 63 = (k1 : Int) := by rw [(quarter x0 x1 x2 B hB).2.1, hk1]; try rfl
      have u1 : k1 < 64 := by omega
      have n1 : (k1 : Int) < 64 := by omega
      have z1 : (0 : Int) ≤ (k1 : Int) := by omega
      have p1 := letter_at' k1 u1
      obtain ⟨k2, hk2⟩ : ∃ k, k = x1.toNat % 16 * 4 + x2.toNat / 64 := ⟨_, rfl⟩
      have q2 : bits .and .u64 ((B : Int) / 64) 63 = (k2 : Int) := by rw [(quarter x0 x1 x2 B hB).2.2.1, hk2]; try rfl
      have u2 : k2 < 64 := by omega
      have n2 : (k2 : Int) < 64 := by omega
      have z2 : (0 : Int) ≤ (k2 : Int) := by omega
      have p2 := letter_at' k2 u2
      obtain ⟨k3, hk3⟩ : ∃ k, k = x2.toNat % 64 := ⟨_, rfl⟩
      have q3 : bits .and .u64 ((B : Int)) 63 = (k3 : Int) := by rw [(quarter x0 x1 x2 B hB).2.2.2, hk3]; try rfl
      have u3 : k3 < 64 := by omega
      have n3 : (k3 : Int) < 64 := by omega
      have z3 : (0 : Int) ≤ (k3 : Int) := by omega
      have p3 := letter_at' k3 u3
      obtain ⟨off2, hA2, hd2⟩ : ∃ off2, (if c' = 3 then (some ⟨bk, off', none⟩ : Option Addr) else some ⟨bk, off' + 3, none⟩) = some ⟨bk, off2, none⟩ ∧ BytesAt w (some ⟨bk, off2, none⟩) r2 (c' - 3) := by
        by_cases hc : c' = 3
        · refine ⟨off', by rw [if_pos hc], ?_⟩
          have h0 : r2 = [] := List.eq_nil_of_length_eq_zero (by simp at hN; omega)
          rw [h0]
          exact ⟨by simp, fun h => by simp at h⟩
        · exact ⟨off' + 3, by rw [if_neg hc], hd⟩
      have HE2 : Hid ((acc ++ [letB k0, letB k1, letB k2, letB k3]) ++ e3 r2 = e3 l) := by
        have h := HE.out
        show _ = _
        rw [← h]
        simp [e3, hk0, hk1, hk2, hk3]
      have HA2 := Lib.hid hA2
      have HD2 := Lib.hid hd2
      have HN := Lib.hid hN
      clear hB hk0 hk1 hk2 hk3 hA2 hd hd2 HE HB hw hN
      go_upto_region 7 with (fail)
      rw [HA2.out]
      go_wp2
      go_loopw [31] (fun s31 wx => (s31 = .int .i64 0 ∧ Wr w w.heap.size w.heap.size (acc) wx) ∨ (s31 = .int .i64 1 ∧ Wr w w.heap.size w.heap.size (acc ++ [letB k0]) wx) ∨ (s31 = .int .i64 2 ∧ Wr w w.heap.size w.heap.size (acc ++ [letB k0, letB k1]) wx) ∨ (s31 = .int .i64 3 ∧ Wr w w.heap.size w.heap.size (acc ++ [letB k0, letB k1, letB k2]) wx) ∨ (s31 = .int .i64 4 ∧ Wr w w.heap.size w.heap.size (acc ++ [letB k0, letB k1, letB k2, letB k3]) wx)) (fun s31 _ => (4 - intOf s31).toNat)
      case atStart => exact Or.inl ⟨rfl, hwW⟩
      case round =>
        rcases hrel with ⟨rfl, hw3⟩ | ⟨rfl, hw3⟩ | ⟨rfl, hw3⟩ | ⟨rfl, hw3⟩ | ⟨rfl, hw3⟩
        · go_wp2_with (first
            | (go_at_call 36; refine (wr_byte (c := letB k0) hw3 (by first | omega | (simp; omega))).mono ?_; rintro e w4 ⟨rfl, hw4⟩)
            | fail)
          go_roundw
          case rel => exact Or.inr (Or.inl ⟨rfl, by simpa using hw4⟩)
          case measure => simp [intOf]
        · go_wp2_with (first
            | (go_at_call 36; refine (wr_byte (c := letB k1) hw3 (by first | omega | (simp; omega))).mono ?_; rintro e w4 ⟨rfl, hw4⟩)
            | fail)
          go_roundw
          case rel => exact Or.inr (Or.inr (Or.inl ⟨rfl, by simpa using hw4⟩))
          case measure => simp [intOf]
        · go_wp2_with (first
            | (go_at_call 36; refine (wr_byte (c := letB k2) hw3 (by first | omega | (simp; omega))).mono ?_; rintro e w4 ⟨rfl, hw4⟩)
            | fail)
          go_roundw
          case rel => exact Or.inr (Or.inr (Or.inr (Or.inl ⟨rfl, by simpa using hw4⟩)))
          case measure => simp [intOf]
        · go_wp2_with (first
            | (go_at_call 36; refine (wr_byte (c := letB k3) hw3 (by first | omega | (simp; omega))).mono ?_; rintro e w4 ⟨rfl, hw4⟩)
            | fail)
          go_roundw
          case rel => exact Or.inr (Or.inr (Or.inr (Or.inr (⟨rfl, by simpa using hw4⟩))))
          case measure => simp [intOf]
        · go_wp2
          go_roundg g2
          case measure => omega
          case rel => exact ⟨N - 3, r2, off2, c' - 3, _, rfl, by have := HN.out; simp at this; omega, HD2, hw3, HE2, by omega, by simp; omega, by omega⟩

set_option maxRecDepth 100000 in
theorem encode_none (A : Option Addr) (c : Nat) (w : World) :
    Calls Tryd.prog 25 #[.slice A 0 c] w fun e w' => e = .returned (.string (bs [])) ∧ Below w.heap.size w w' := by
  go_enter Tryd.func25, Tryd.ntmps25
  go_wp2
  go_loopg [0] 0 (fun gk s0 wx => s0 = .slice A 0 c ∧ Wr w w.heap.size w.heap.size [] wx)
  case atStart => exact ⟨rfl, Wr.fresh w⟩
  case round =>
    obtain ⟨rfl, hw⟩ := hrel
    go_wp2_with (first
      | (go_at_call 32; refine (wr_end hw).mono ?_; rintro e w9 ⟨rfl, hb9⟩)
      | fail)
    go_ret
    exact ⟨rfl, hb9⟩
theorem encode_any (A : Option Addr) (c : Nat) (l : List UInt8) (w : World) (hl : BytesAt w A l c) (hz : l.length ≤ 1000000) :
    Calls Tryd.prog 25 #[.slice A l.length c] w fun e w' => e = .returned (.string (bs (e3 l))) ∧ Below w.heap.size w w' := by
  rcases Nat.eq_zero_or_pos l.length with h | h
  · obtain rfl := List.eq_nil_of_length_eq_zero h
    exact encode_none A c w
  · obtain ⟨b, o, rfl, _⟩ := hl.2 h
    exact encode_some b o c l w hl hz
end Go.Proofs.YtlhpncpihbpkoaaDoor
