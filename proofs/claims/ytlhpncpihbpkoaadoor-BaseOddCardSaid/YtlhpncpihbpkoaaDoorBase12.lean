/- The plain layer of base64: a text's letters, bit by bit, over the text itself; a row of bytes that the call made, with a byte stored. No conditions. -/
import Derived.Test.YtlhpncpihbpkoaaDoorBase10
import Derived.Test.YtlhpncpihbpkoaaDoorConv
import Derived.Deep.OwnRows
import Derived.Laws.BitsLemmas
import Derived.Laws.OwnMore
namespace Go.Proofs.YtlhpncpihbpkoaaDoor
open Go.RowKit

/-- A letter's number, 0 where there is none. -/
def nL (c : UInt8) : Nat := (numB c).getD 0
theorem nL_some {c : UInt8} {n : Nat} (h : numB c = some n) : nL c = n := by unfold nL; rw [h]; rfl
theorem nL_lt (c : UInt8) : nL c < 64 := by
  cases h : numB c with
  | none => unfold nL; rw [h]; decide
  | some n => rw [nL_some h]; exact (num_some h).1
/-- The bit number p of a text's letters. -/
def fL (L : List UInt8) (p : Nat) : Nat := nL (L.getD (p / 6) 0) / 2 ^ (5 - p % 6) % 2
theorem fL_lt (L : List UInt8) (p : Nat) : fL L p < 2 := Nat.mod_lt _ (by decide)
theorem sixL_map (L : List UInt8) : sixL (L.map nL) = fL L := by
  funext p
  unfold sixL fL
  have e : (L.map nL).getD (p / 6) 0 = nL (L.getD (p / 6) 0) := by
    simp only [List.getD_eq_getElem?_getD, List.getElem?_map]
    cases L[p / 6]? with
    | none => rfl
    | some c => rfl
  rw [e]
theorem mapM_all : ∀ L : List UInt8, (∀ c ∈ L, numB c ≠ none) → L.mapM numB = some (L.map nL)
  | [], _ => rfl
  | c :: r, h => by
    rw [List.mapM_cons, mapM_all r (fun d hd => h d (by simp [hd]))]
    cases hc : numB c with
    | none => exact absurd hc (h c (by simp))
    | some n => rw [List.map_cons, nL_some hc]; rfl
theorem core_all (L : List UInt8) (h4 : L.length % 4 ≠ 1) (h : ∀ c ∈ L, numB c ≠ none) : core L = some (outL (fL L) (6 * L.length / 8) (6 * L.length)) := by
  unfold core
  rw [if_neg h4, mapM_all L h, ← sixL_map]
  have := d4_out (L.map nL) (fun n hn => by obtain ⟨c, _, rfl⟩ := List.mem_map.1 hn; exact nL_lt c) (by rw [List.length_map]; exact h4)
  rw [List.length_map] at this
  rw [this]
  rfl
theorem core_short (L : List UInt8) (h4 : L.length % 4 = 1) : core L = none := by unfold core; rw [if_pos h4]
theorem strip_no (Z : List UInt8) (h : ¬ (Z.length % 4 = 0 ∧ Z.getLast? = some 61)) : strip Z = Z := by unfold strip; rw [if_neg h]
theorem strip_one (Z : List UInt8) (h : Z.length % 4 = 0 ∧ Z.getLast? = some 61) (h2 : Z.dropLast.getLast? ≠ some 61) : strip Z = Z.dropLast := by unfold strip; rw [if_pos h, if_neg h2]
theorem strip_two (Z : List UInt8) (h : Z.length % 4 = 0 ∧ Z.getLast? = some 61) (h2 : Z.dropLast.getLast? = some 61) : strip Z = Z.dropLast.dropLast := by unfold strip; rw [if_pos h, if_pos h2]
theorem dropLast_last (Z : List UInt8) (h : 2 ≤ Z.length) : Z.dropLast.getLast? = Z[Z.length - 2]? := by
  rw [List.getLast?_eq_getElem?, List.length_dropLast, List.getElem?_dropLast, if_pos (by omega)]
  rfl

theorem strip_pre (Z : List UInt8) : strip Z = Z.take (strip Z).length ∧ (strip Z).length ≤ Z.length := by
  by_cases h : Z.length % 4 = 0 ∧ Z.getLast? = some 61
  · by_cases h2 : Z.dropLast.getLast? = some 61
    · rw [strip_two Z h h2]
      refine ⟨?_, by simp; omega⟩
      rw [List.length_dropLast, List.length_dropLast, List.dropLast_eq_take, List.dropLast_eq_take, List.take_take, List.length_take]
      congr 1
      omega
    · rw [strip_one Z h h2]
      exact ⟨by rw [List.length_dropLast, List.dropLast_eq_take], by simp⟩
  · rw [strip_no Z h]
    exact ⟨by simp, Nat.le_refl _⟩
theorem BytesAt.take {w : World} {A : Option Addr} {l : List UInt8} {c : Nat} (h : BytesAt w A l c) (m : Nat) : BytesAt w A (l.take m) c := by
  refine ⟨by rw [List.length_take]; have := h.1; omega, fun hn => ?_⟩
  rw [List.length_take] at hn
  obtain ⟨b, o, e, hc⟩ := h.2 (by omega)
  refine ⟨b, o, e, fun j x hj => hc j x ?_⟩
  rw [List.getElem?_take] at hj
  split at hj
  · exact hj
  · cases hj
theorem make_bytes (m : Nat) (hm : m ≤ 1000000) : ∀ W : World, (Instr.makeSlice 35 (.int .i64 (m : Int)) (.int .i64 (m : Int))).run Tryd.prog W = .ok (.slice (some ⟨W.heap.size, 0, none⟩) m m) (W.alloc (.cells (madeCells #[.int .u8 0] m) 5)) := by
  intro W
  exact run_make_row' 35 5 (.int .u8 0) 1 Tryd.underlying35 byteInfo rfl .i64 .i64 m (by omega) (by omega) W

theorem Own.set {B b c m : Nat} {l : List UInt8} {w : World} (h : Own B (.slice (some ⟨b, 0, none⟩) m c) l w) (j : Nat) (x : UInt8) (z : Int) (hz : z = (x.toNat : Int)) :
    Own B (.slice (some ⟨b, 0, none⟩) m c) (l.set j x) (w.setCell ⟨b, j, none⟩ (.int .u8 z)) := by
  subst hz
  have hm : m = l.length := by
    obtain ⟨A, c2, e⟩ := h.shape
    cases e
    rfl
  subst hm
  have h' : w.ownsRow B 5 1 (.slice (some ⟨b, 0, none⟩) l.length c) l.length (Lib.byteCells l) := h
  have hs := (World.ownsRow.stored h' j (.int .u8 x.toNat)).1
  have he : (Lib.byteCells l).set j (.int .u8 x.toNat) = Lib.byteCells (l.set j x) := by simp [Lib.byteCells, List.map_set]
  rw [he] at hs
  unfold Own
  rw [List.length_set]
  exact hs
theorem wraps62i (n : Int) (h₀ : 0 ≤ n) (h₁ : n < 2 ^ 62) : IntKind.i64.wrap n = n := by
  simp [IntKind.wrap, IntKind.bits, IntKind.signed]
  omega
theorem low1i (z : Int) (h0 : 0 ≤ z) (h1 : z < 256) : bits .and .i64 z 1 = z % 2 := by
  have h := bits_mask .i64 62 (by decide) wraps62i 1 (by decide) z h0 (by omega)
  have e : ((2 : Int) ^ 1 - 1) = 1 := by decide
  rw [e] at h
  exact h
theorem wraps8 (n : Int) (h₀ : 0 ≤ n) (h₁ : n < 2 ^ 8) : IntKind.u8.wrap n = n := by
  simp [IntKind.wrap, IntKind.bits, IntKind.signed]
  omega
theorem bor_at (V r v : Nat) (hv : v = 2 ^ (7 - r)) (h1 : V % 2 ^ (8 - r) = 0) (h2 : V < 256) (hr : r < 8) : bits .or .u8 (V : Int) (v : Int) = ((V + v : Nat) : Int) := by
  have hr8 : r = 0 ∨ r = 1 ∨ r = 2 ∨ r = 3 ∨ r = 4 ∨ r = 5 ∨ r = 6 ∨ r = 7 := by omega
  rcases hr8 with rfl | rfl | rfl | rfl | rfl | rfl | rfl | rfl <;> simp only [Nat.reduceSub, Nat.reducePow] at hv h1 <;> subst hv
  · rw [bits_join .u8 8 (by decide) wraps8 8 (V : Int) _ (by omega) (by omega) (by omega) (by omega) (by omega) (by omega)]; omega
  · rw [bits_join .u8 8 (by decide) wraps8 7 (V : Int) _ (by omega) (by omega) (by omega) (by omega) (by omega) (by omega)]; omega
  · rw [bits_join .u8 8 (by decide) wraps8 6 (V : Int) _ (by omega) (by omega) (by omega) (by omega) (by omega) (by omega)]; omega
  · rw [bits_join .u8 8 (by decide) wraps8 5 (V : Int) _ (by omega) (by omega) (by omega) (by omega) (by omega) (by omega)]; omega
  · rw [bits_join .u8 8 (by decide) wraps8 4 (V : Int) _ (by omega) (by omega) (by omega) (by omega) (by omega) (by omega)]; omega
  · rw [bits_join .u8 8 (by decide) wraps8 3 (V : Int) _ (by omega) (by omega) (by omega) (by omega) (by omega) (by omega)]; omega
  · rw [bits_join .u8 8 (by decide) wraps8 2 (V : Int) _ (by omega) (by omega) (by omega) (by omega) (by omega) (by omega)]; omega
  · rw [bits_join .u8 8 (by decide) wraps8 1 (V : Int) _ (by omega) (by omega) (by omega) (by omega) (by omega) (by omega)]; omega
theorem bnew_at (V r v : Nat) (h1 : V % 2 ^ (8 - r) = 0) (h2 : V < 256) (hr : r < 8 ∧ v = 2 ^ (7 - r)) : ((V + v : Nat) : Int) = ((UInt8.ofNat (V + 2 ^ (7 - r))).toNat : Int) := by
  obtain ⟨hr, rfl⟩ := hr
  have hlt : V + 2 ^ (7 - r) < 256 := by
    have hr8 : r = 0 ∨ r = 1 ∨ r = 2 ∨ r = 3 ∨ r = 4 ∨ r = 5 ∨ r = 6 ∨ r = 7 := by omega
    rcases hr8 with rfl | rfl | rfl | rfl | rfl | rfl | rfl | rfl <;> simp only [Nat.reduceSub, Nat.reducePow] at h1 ⊢ <;> omega
  generalize 2 ^ (7 - r) = z at hlt ⊢
  rw [UInt8.toNat_ofNat']
  omega
theorem Own.free {B b c m : Nat} {l : List UInt8} {w : World} (h : Own B (.slice (some ⟨b, 0, none⟩) m c) l w) (j : Nat) : w.frozen? ⟨b, j, none⟩ = false := by
  rcases h.2 with ⟨hv, _⟩ | ⟨g, cap, cur, hv, hg, hh, _⟩
  · cases hv
  · cases hv
    simp [World.frozen?, hh]
theorem Own.get {B b c m : Nat} {l : List UInt8} {w : World} (h : Own B (.slice (some ⟨b, 0, none⟩) m c) l w) (j : Nat) (x : UInt8) (hj : l[j]? = some x) : w.cell? ⟨b, j, none⟩ = some (.int .u8 x.toNat) := by
  obtain ⟨b2, c2, e, _, hc⟩ := h.cell hj
  cases e
  exact hc
theorem Own.base {B b c m : Nat} {l : List UInt8} {w : World} (h : Own B (.slice (some ⟨b, 0, none⟩) m c) l w) : B ≤ b := by
  rcases h.2 with ⟨hv, _⟩ | ⟨g, cap, cur, hv, hg, _⟩
  · cases hv
  · cases hv
    exact hg
theorem Own.made (W : World) (B m : Nat) (hB : B ≤ W.heap.size) (hm : m ≤ 1000000) : Own B (.slice (some ⟨W.heap.size, 0, none⟩) m m) (List.replicate m 0) (W.alloc (.cells (madeCells #[.int .u8 0] m) 5)) := by
  have h := World.ownsRow_lit (base := B) (e := 5) (size := 1) W (madeCells #[.int .u8 0] m) m hB (by unfold maxLen; omega) (by simp [size_madeCells])
  have hl : (madeCells #[Value.int .u8 0] m).toList = Lib.byteCells (List.replicate m 0) := by
    apply List.ext_getElem
    · simp [Lib.byteCells, madeCells]
    · intro i h1 h2
      simp [Lib.byteCells, madeCells, Nat.mod_one]
  rw [hl] at h
  unfold Own
  rwa [List.length_replicate]
end Go.Proofs.YtlhpncpihbpkoaaDoor
