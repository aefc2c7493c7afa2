/- A row of bytes that the call itself has laid, append by append. Conditions stand in the statements. -/
import Derived.Test.YtlhpncpihbpkoaaDoorBuf
import Derived.Test.YtlhpncpihbpkoaaDoorUrl0
import Derived.WalkKit
import Derived.Lib.UnsafeStr
namespace Go.Proofs.YtlhpncpihbpkoaaDoor
open Go.RowKit

/-- The slice v holds the bytes l; its row lies from block B on, and nobody else's is it. -/
def Own (B : Nat) (v : Value) (l : List UInt8) (w : World) : Prop := w.ownsRow B 5 1 v l.length (Lib.byteCells l)
theorem Own.nil (B : Nat) (w : World) : Own B (.slice none 0 0) [] w := ⟨by simp [Lib.byteCells], Or.inl ⟨rfl, rfl⟩⟩
theorem Own.shape {B : Nat} {v : Value} {l : List UInt8} {w : World} (h : Own B v l w) : ∃ A c, v = .slice A l.length c := by
  rcases h.2 with ⟨hv, hn⟩ | ⟨g, cap, cur, hv, _⟩
  · exact ⟨none, 0, by rw [hn]; exact hv⟩
  · exact ⟨_, _, hv⟩
theorem Own.below {B : Nat} {v : Value} {l : List UInt8} {w w' : World} (h : Own B v l w) (hb : Below w.heap.size w w') : Own B v l w' := by
  obtain ⟨h1, h2⟩ := h
  refine ⟨h1, h2.imp id ?_⟩
  rintro ⟨g, cap, cur, hv, hg, hh, r⟩
  exact ⟨g, cap, cur, hv, hg, (hb.block g (Array.getElem?_eq_some_iff.1 hh).1).trans hh, r⟩
theorem Own.cell {B : Nat} {v : Value} {l : List UInt8} {w : World} (h : Own B v l w) {j : Nat} {x : UInt8} (hj : l[j]? = some x) : ∃ b c, v = .slice (some ⟨b, 0, none⟩) l.length c ∧ B ≤ b ∧ w.cell? ⟨b, j, none⟩ = some (.int .u8 x.toNat) := by
  rcases h.2 with ⟨hv, hn⟩ | ⟨g, cap, cur, hv, hg, hh, h1, h2, h3, h4⟩
  · have := List.eq_nil_of_length_eq_zero hn
    subst this; cases hj
  · refine ⟨g, cap, hv, hg, ?_⟩
    have hlt : j < l.length := (List.getElem?_eq_some_iff.1 hj).1
    have e : (Lib.byteCells l)[j]? = some (.int .u8 x.toNat) := by simp [Lib.byteCells, hj]
    rw [← h4, List.getElem?_take_of_lt (by omega)] at e
    rw [World.cell?, hh]
    simpa using e

/-- 'append(out, c)', as the translation lays it: the one byte stands in a new row of one. -/
theorem own_append {ops : Array Oper} {rest : List Oper} {o : Oper} {a : Act} {Q : Exit → Act → World → Prop} (hgd : o.guard = none) (s x : Operand)
    (ho : o.op = .call { callee := .builtin .append, args := #[s, x], argTypes := #[35, 35] })
    (B : Nat) (v : Value) (l : List UInt8) (c : UInt8) (w : World) (z : Int) (hzc : z = (c.toNat : Int)) (hs : a.eval s = v) (hown : Own B v l w) (hB : B ≤ w.heap.size) (hl : l.length < 140737488355328)
    (hx : a.eval x = .slice (some ⟨w.heap.size, 0, none⟩) 1 1)
    (h : ∀ v' w', Own B v' (l ++ [c]) w' → Below B w w' → wpList Tryd.prog ops Q rest (a.put o.dst v') w') : wpList Tryd.prog ops Q (o :: rest) a (w.alloc (.cells #[.int .u8 z] 5)) := by
  subst hzc
  obtain ⟨i0, hi, hz0, hz1, hz2⟩ := info_parts byteInfo
  have hown' : (w.alloc (.cells #[.int .u8 c.toNat] 5)).ownsRow B 5 1 v l.length (Lib.byteCells l) := hown.below ((Below.refl _ _).alloc (Nat.le_refl _) _)
  refine wpList_append_own (w := w.alloc (.cells #[.int .u8 c.toNat] 5)) hgd s x 35 ho B 5 i0 (.int .u8 0) 1 1 Tryd.underlying35 hi hz0 hz1 hz2 rfl (by decide) v l.length (Lib.byteCells l) hs hown' ⟨w.heap.size, 0, none⟩ 1 1 [.int .u8 c.toNat] hx rfl (cell_one_new _ _ _) (ints_oneCell .u8 [(c.toNat : Int)]) (by unfold maxLen; omega) (by omega) (by simp; omega) ?_
  intro v' w' h1 h2 _
  refine h v' w' ?_ ?_
  · unfold Own
    rw [Lib.byteCells_append]
    simpa [Lib.byteCells] using h1
  · refine ((Below.refl B w).alloc hB _).grown h2 (by simp; omega) (fun k hk => ?_)
    rcases hown'.2 with ⟨hv, _⟩ | ⟨g, cap, cur, hv, hg, _⟩
    · rw [hv] at hk; cases hk
    · rw [hv] at hk; cases hk; exact hg
end Go.Proofs.YtlhpncpihbpkoaaDoor
