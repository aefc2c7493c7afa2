/- What the rows of law03 share: the two tables of UTF-8 out of a row's list; a slice of bytes that is handed in, opened; the five laws' contracts. Conditions stand in the statements. -/
import Derived.Test.YtlhpncpihbpkoaaDoorRow0
import Derived.Test.YtlhpncpihbpkoaaDoorPureReads
import Derived.Test.YtlhpncpihbpkoaaDoorPureBlanks
import Derived.Test.YtlhpncpihbpkoaaDoorPureWrites
import Derived.Test.YtlhpncpihbpkoaaDoorPureParts
import Derived.Test.YtlhpncpihbpkoaaDoorPureOdd
import Derived.Lib.LaidU8
namespace Go.Proofs.YtlhpncpihbpkoaaDoor
open Go.ChangeShapes Go.WideShapes Go.ChangeAt Go.ChangeMaps Go.RowKit Go.Proofs.YtlhpncpihbpkoaaDoorW.PrintWords

def laid03 : List (String × DataW Unit) := [("unicode/utf8.acceptRanges", Rows.laid_unicode_utf8_acceptRanges), ("unicode/utf8.first", Rows.laid_unicode_utf8_first)]
theorem u8extra : U8Extra Tryd.prog Tryd.lays260_ren := ⟨by kernel_rfl, by kernel_rfl, by kernel_rfl, by kernel_rfl, by kernel_rfl, by kernel_rfl, by kernel_rfl⟩
theorem tab03 {W : World} (h : laidMetH Tryd.prog laid03 W) : Tabs W := by
  rw [MakeChecks.laidMetH_plain _ _ _ (by kernel_rfl)] at h
  have h1 := Lib.laidMet.reads h (n := "unicode/utf8.first") (d := Rows.laid_unicode_utf8_first) (.tail _ (.head _))
  have h2 := Lib.laidMet.reads h (n := "unicode/utf8.acceptRanges") (d := Rows.laid_unicode_utf8_acceptRanges) (.head _)
  have e1 : Rows.laid_unicode_utf8_first = Lib.firstData := by kernel_rfl
  have e2 : (Rows.laid_unicode_utf8_acceptRanges : DataW Unit) = Lib.acceptData := by kernel_rfl
  rw [e1] at h1
  rw [e2] at h2
  exact ⟨utf8Tabs_of_reads Tryd.lays260 u8extra h1 h2⟩
theorem met03 (os : Os) (args : Array Value) : laidMet Tryd.prog laid03 ((World.laidAll Tryd.prog os laid03).forCall (fun _ _ => 0) ⟨#[], args, []⟩).memory :=
  laidMet_laidAll _ (by kernel_rfl) (by kernel_rfl)

theorem open_bytes {H : Type} {enc : TypeId × Value → H} {w : World} {r : Reach} {b0 : Nat} {v : Value} {d : DataW H} {p : List MemPlace}
    (hv : Value.okWide Tryd.prog w r b0 35 v) (h : DataW.Trod enc Tryd.prog w 0 (fun _ => true) true 35 v d p) :
    ∃ (A : Option Addr) (c : Nat) (l : List Int), v = .slice A l.length c ∧ Kd.C (Kd.int .u8) w A l.length l ∧ l.length ≤ c ∧ okB l = true := by
  obtain ⟨a, len, cap, rfl⟩ := okWide_slice Tryd.underlying35 hv
  obtain ⟨z, hz⟩ : ∃ zs : List Int, (a = none ∧ len = 0 ∧ cap = 0 ∧ zs = []) ∨ ∃ x, a = some x ∧ len ≤ cap ∧ cap ≤ maxLen ∧ zs.length = cap ∧ (∀ i, i < zs.length → w.cell? (x.add i) = some (.int .u8 (zs.getD i 0))) ∧ ∀ n ∈ zs, (Lit.int .u8 n).wf = true := by
    obtain ⟨fuel, hf⟩ := h
    rcases open_ints Tryd.underlying35 Tryd.underlying5 (by kernel_rfl) hf with ⟨hcs, _⟩ | ⟨x, l, c, zs, hcs, _, hl, hm, hz, _, hcell, hwz⟩
    · simp [Value.cells] at hcs
      obtain ⟨rfl, rfl, rfl⟩ := hcs
      exact ⟨[], .inl ⟨rfl, rfl, rfl, rfl⟩⟩
    · simp [Value.cells] at hcs
      obtain ⟨rfl, rfl, rfl⟩ := hcs
      exact ⟨zs, .inr ⟨_, rfl, hl, hm, by simpa using hz, hcell, hwz⟩⟩
  obtain ⟨l, rfl, hr, hm, hw, hc⟩ := ReadsInt.ofRowC hz
  refine ⟨a, cap, l, rfl, Kd.C_of_reads (d := (0 : Int)) (h1 := fun _ => rfl) hr, hc, okB_of fun x hx => ?_⟩
  have := hw x hx
  have m1 : IntKind.u8.min = 0 := by decide
  have m2 : IntKind.u8.max = 255 := by decide
  simp only [Lit.wf, Bool.and_eq_true, decide_eq_true_eq, m1, m2] at this
  exact this

theorem basewrites_any (A : Option Addr) (c : Nat) (l : List Int) (W : World) (hT : Tabs W) (hr : Kd.C (Kd.int .u8) W A l.length l) (hc : l.length ≤ c) (ho : okB l = true) :
    Calls Tryd.prog 7 #[.slice A l.length c] W fun e W' => e = .returned (.bool true) ∧ Below W.heap.size W W' := by
  obtain ⟨k, h⟩ := X.BaseWrites_pure l ho
  exact X.carryalllaw03_BaseWrites.calls k A c l true W hT hr hc h
theorem basereads_any (s : ByteArray) (W : World) (hT : Tabs W) :
    Calls Tryd.prog 8 #[.string s] W fun e W' => e = .returned (.bool true) ∧ Below W.heap.size W W' := by
  obtain ⟨k, h⟩ := X.BaseReads_pure s
  exact X.carryalllaw03_BaseReads.calls k s true W hT h
theorem baseblanks_any (s : ByteArray) (a b : Int) (W : World) (hT : Tabs W) (ha : 0 ≤ a ∧ a ≤ 65535) (hb : 0 ≤ b ∧ b ≤ 255) :
    Calls Tryd.prog 9 #[.string s, .int .u16 a, .int .u8 b] W fun e W' => e = .returned (.bool true) ∧ Below W.heap.size W W' := by
  obtain ⟨k, h⟩ := X.BaseBlanks_pure s a b ha hb
  exact X.carryalllaw03_BaseBlanks.calls k s a b true W hT h
theorem baseparts_any (A : Option Addr) (c : Nat) (l : List Int) (a : Int) (W : World) (hT : Tabs W) (hr : Kd.C (Kd.int .u8) W A l.length l) (hc : l.length ≤ c) (ho : okB l = true) (ha : 0 ≤ a ∧ a ≤ 255) :
    Calls Tryd.prog 10 #[.slice A l.length c, .int .u8 a] W fun e W' => e = .returned (.bool true) ∧ Below W.heap.size W W' := by
  obtain ⟨k, h⟩ := X.BaseParts_pure l a ho ha
  exact X.carryalllaw03_BaseParts.calls k A c l a true W hT hr hc h
theorem baseodd_any (A : Option Addr) (c : Nat) (l : List Int) (a b : Int) (W : World) (hT : Tabs W) (hr : Kd.C (Kd.int .u8) W A l.length l) (hc : l.length ≤ c) (ho : okB l = true) (ha : 0 ≤ a ∧ a ≤ 255) (hb : 0 ≤ b ∧ b ≤ 255) :
    Calls Tryd.prog 11 #[.slice A l.length c, .int .u8 a, .int .u8 b] W fun e W' => e = .returned (.bool true) ∧ Below W.heap.size W W' := by
  obtain ⟨k, h⟩ := X.BaseOdd_pure l a b ho ha hb
  exact X.carryalllaw03_BaseOdd.calls k A c l a b true W hT hr hc h
end Go.Proofs.YtlhpncpihbpkoaaDoor
