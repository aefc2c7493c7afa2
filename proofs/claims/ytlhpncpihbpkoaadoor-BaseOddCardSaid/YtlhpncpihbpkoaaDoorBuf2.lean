/- The builder's contracts with one frame: what was there when the call began stands. strconv.Itoa at any int beside it. -/
import Derived.Test.YtlhpncpihbpkoaaDoorBuf
import Derived.Test.YtlhpncpihbpkoaaDoorUrl0
import Derived.WalkKit
import Derived.Lib.SmallJoins
import Derived.Sort.Grow
namespace Go.Proofs.YtlhpncpihbpkoaaDoor
open Go.RowKit Go.Sort

/-- A builder at block b, made since world w0. -/
def Wr (w0 : World) (B b : Nat) (l : List UInt8) (w : World) : Prop := Buf B b l w ∧ Below B w0 w ∧ w0.heap.size = B
theorem Wr.fresh (w : World) : Wr w w.heap.size w.heap.size [] (w.alloc (.cells #[.pointer none, .slice none 0 0] 47)) := ⟨buf_fresh w, (Below.refl _ _).alloc (Nat.le_refl _) _, rfl⟩
theorem wr_string {w0 : World} {B b : Nat} {l : List UInt8} {s : ByteArray} {w : World} (h : Wr w0 B b l w) (hlen : l.length + s.size ≤ 140737488355328) :
    Calls Tryd.prog 31 #[.pointer (some ⟨b, 0, none⟩), .string s] w fun e w' => e = .returned (.tuple #[.int .i64 s.size, .nilIface]) ∧ Wr w0 B b (l ++ s.data.toList) w' :=
  (write_string B b l s w h.1 hlen (Nat.le_trans (Nat.le_of_eq h.2.2.symm) h.2.1.size)).mono fun _ _ ⟨h1, h2, h3⟩ => ⟨h1, h2, h.2.1.trans h3.1, h.2.2⟩
theorem wr_byte {w0 : World} {B b : Nat} {l : List UInt8} {c : UInt8} {w : World} (h : Wr w0 B b l w) (hlen : l.length < 140737488355328) :
    Calls Tryd.prog 36 #[.pointer (some ⟨b, 0, none⟩), .int .u8 c.toNat] w fun e w' => e = .returned .nilIface ∧ Wr w0 B b (l ++ [c]) w' :=
  (write_byte B b l c w h.1 hlen (Nat.le_trans (Nat.le_of_eq h.2.2.symm) h.2.1.size)).mono fun _ _ ⟨h1, h2, h3⟩ => ⟨h1, h2, h.2.1.trans h3.1, h.2.2⟩
theorem wr_end {w0 : World} {B b : Nat} {l : List UInt8} {w : World} (h : Wr w0 B b l w) :
    Calls Tryd.prog 32 #[.pointer (some ⟨b, 0, none⟩)] w fun e w' => e = .returned (.string (bs l)) ∧ Below B w0 w' :=
  (string_any B b l w h.1 (Nat.le_trans (Nat.le_of_eq h.2.2.symm) h.2.1.size)).mono fun _ _ ⟨h1, h2⟩ => ⟨h1, h.2.1.trans h2.1⟩

theorem Wr.cell {w0 : World} {B b : Nat} {l : List UInt8} {w : World} (h : Wr w0 B b l w) (k o : Nat) (hk : k < B) : w.cell? ⟨k, o, none⟩ = w0.cell? ⟨k, o, none⟩ := h.2.1.cell (p := ⟨k, o, none⟩) hk
theorem ownsRowF_below {w w' : World} {base : Nat} {e : TypeId} {size : Nat} {v : Value} {n : Nat} {xs : List Value} (h : w.ownsRowF base e size v n xs) (hb : Below w.heap.size w w') : w'.ownsRowF base e size v n xs := by
  obtain ⟨h1, h2⟩ := h
  refine ⟨h1, h2.imp id ?_⟩
  rintro ⟨g, cap, cur, fz, hv, hg, hh, r⟩
  exact ⟨g, cap, cur, fz, hv, hg, (hb.block g (Array.getElem?_eq_some_iff.1 hh).1).trans hh, r⟩
theorem Buf.below {B b : Nat} {l : List UInt8} {w w' : World} (h : Buf B b l w) (hb : Below w.heap.size w w') : Buf B b l w' := by
  have go : ∀ p, Lib.BuilderAtF 47 5 B b p (Lib.byteCells l) w → Lib.BuilderAtF 47 5 B b p (Lib.byteCells l) w' := fun p ⟨hB, v, hk, ho, hn⟩ =>
    ⟨hB, v, (hb.block b (Array.getElem?_eq_some_iff.1 hk).1).trans hk, ownsRowF_below ho hb, hn⟩
  exact h.imp (go _) (go _)
theorem Wr.below {w0 : World} {B b : Nat} {l : List UInt8} {w w' : World} (h : Wr w0 B b l w) (hb : Below w.heap.size w w') : Wr w0 B b l w' :=
  ⟨h.1.below hb, h.2.1.trans (hb.mono (Nat.le_trans (Nat.le_of_eq h.2.2.symm) h.2.1.size)), h.2.2⟩

theorem gPow : Tryd.prog.globalNamed "internal/strconv.uint64pow10" = some 3 := by kernel_rfl
/-- Go's table of powers of ten lies as its initialiser lays it. -/
def Tab (w : World) : Prop := Lib.TabIs Tryd.prog w "internal/strconv.uint64pow10" .u64 Lib.pow10Tab
theorem Tab.below {w w' : World} {B : Nat} (h : Tab w) (hB : w.heap.size ≤ B) (hb : Below B w w') : Tab w' := Joins.tab_stays gPow h hb hB
theorem Tab.alloc {w : World} (h : Tab w) (o : Obj) : Tab (w.alloc o) := h.below (Nat.le_refl _) ((Below.refl _ _).alloc (Nat.le_refl _) o)
theorem Wr.tab {w0 : World} {B b : Nat} {l : List UInt8} {w : World} (h : Wr w0 B b l w) (ht : Tab w0) : Tab w := ht.below (Nat.le_of_eq h.2.2) h.2.1
theorem below_grow (w : World) (k : Nat) (os : Array Obj) : Below w.heap.size w (grow (w.drewN k) os) :=
  ⟨rfl, rfl, rfl, by simp [grow], fun i hi => by simp [grow, Array.getElem?_append, hi]⟩
theorem itoa_any (n : Int) (h0 : -9223372036854775808 ≤ n) (h1 : n ≤ 9223372036854775807) (w : World) (ht : Tab w) :
    Calls Tryd.prog 42 #[.int .i64 n] w fun e w' => e = .returned (.string (bs (Lib.itoa n))) ∧ Below w.heap.size w w' :=
  (Tryd.strconv_Itoa n h0 h1 w ht).mono fun _ _ ⟨h1, k, os, h2⟩ => ⟨h1, by rw [h2]; exact below_grow w k os⟩
end Go.Proofs.YtlhpncpihbpkoaaDoor
