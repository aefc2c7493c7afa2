/- url.Same: walked. -/
import Derived.Test.YtlhpncpihbpkoaaDoorBuf2
import Derived.WalkKit
import Derived.Lib.Hide
import Derived.Deep.DeepCutAuto
import Derived.Deep.DeepMust
import Derived.OpenShut
import Derived.Deep.Light
namespace Go.Proofs.YtlhpncpihbpkoaaDoor
open Go.RowKit

theorem TextsAt.plain {w : World} {A : Option Addr} {ps : List ByteArray} (h : TextsAt w A ps) (hn : 0 < ps.length) :
    ∃ b off, A = some ⟨b, off, none⟩ ∧ ∀ j, j < ps.length → w.cell? ⟨b, off + j, none⟩ = some (.string (ps.getD j ByteArray.empty)) := by
  obtain ⟨⟨b, off, spot⟩, e, hc⟩ := h.2 hn
  have hspot : spot = none := by simpa [Addr.add] using World.cell?_spot (hc 0 hn)
  subst hspot
  exact ⟨b, off, e, fun j hj => by rw [← Go.WideShapes.add_plain]; exact hc j hj⟩

theorem equal_any (A1 A2 : Option Addr) (p1 p2 : List ByteArray) (c1 c2 : Nat) (w : World) (h1 : TextsAt w A1 p1) (h2 : TextsAt w A2 p2) :
    Calls Tryd.prog 34 #[.slice A1 p1.length c1, .slice A2 p2.length c2] w fun e w' => e = .returned (.bool (decide (p1 = p2))) ∧ ∃ q, w' = w.drewN q := by
  by_cases hl : p1.length = p2.length
  · rcases Nat.eq_zero_or_pos p1.length with h0 | h0
    · have e1 := List.eq_nil_of_length_eq_zero h0
      have e2 := List.eq_nil_of_length_eq_zero (hl.symm.trans h0)
      subst e1 e2
      refine (Tryd.slices_Equal_string_empty A1 A2 c1 0 c2 w (by decide)).mono ?_
      rintro e w' ⟨rfl, rfl⟩
      exact ⟨rfl, 0, rfl⟩
    · obtain ⟨b1, o1, rfl, hc1⟩ := h1.plain h0
      obtain ⟨b2, o2, rfl, hc2⟩ := h2.plain (by omega)
      refine (Tryd.slices_Equal_string b1 o1 p1.length c1 b2 o2 p2.length c2 p1 p2 w (Nat.le_refl _) (Nat.le_refl _) h1.1 h2.1 hc1 hc2).mono ?_
      rintro e w' ⟨rfl, q, rfl⟩
      rw [List.take_length, List.take_length]
      exact ⟨rfl, q, rfl⟩
  · refine (Tryd.slices_Equal_string_lens A1 A2 p1.length c1 p2.length c2 w hl).mono ?_
    rintro e w' ⟨rfl, rfl⟩
    exact ⟨by rw [decide_eq_false (fun e => hl (by rw [e]))], 0, rfl⟩

def whomB (sc1 us1 pa1 ho1 sc2 us2 pa2 ho2 : ByteArray) (hh1 hh2 : Bool) (po1 po2 : Int) : Bool :=
  sc1.toList == sc2.toList && us1.toList == us2.toList && pa1.toList == pa2.toList && hh1 == hh2 && (!hh1 || ho1.toList == ho2.toList) && po1 == po2
def pathB (op1 op2 : Bool) (tx1 tx2 : ByteArray) (p1 p2 : List ByteArray) : Bool := op1 == op2 && (op1 && tx1.toList == tx2.toList || !op1 && decide (p1 = p2))
def queryB (hq1 hq2 : Bool) (qu1 qu2 : ByteArray) : Bool := hq1 == hq2 && (!hq1 || qu1.toList == qu2.toList)

set_option maxHeartbeats 4000000 in
set_option maxRecDepth 100000 in
theorem same_any (sc1 us1 pa1 ho1 tx1 qu1 fr1 : ByteArray) (hh1 op1 hq1 hf1 : Bool) (po1 : Int) (A1 : Option Addr) (p1 : List ByteArray) (c1 : Nat) (sc2 us2 pa2 ho2 tx2 qu2 fr2 : ByteArray) (hh2 op2 hq2 hf2 : Bool) (po2 : Int) (A2 : Option Addr) (p2 : List ByteArray) (c2 : Nat) (w : World) (h1 : TextsAt w A1 p1) (h2 : TextsAt w A2 p2) :
    Calls Tryd.prog 22 #[.agg #[.string sc1, .string us1, .string pa1, .string ho1, .bool hh1, .int .i64 po1, .bool op1, .string tx1, .slice A1 p1.length c1, .bool hq1, .bool hf1, .string qu1, .string fr1], .agg #[.string sc2, .string us2, .string pa2, .string ho2, .bool hh2, .int .i64 po2, .bool op2, .string tx2, .slice A2 p2.length c2, .bool hq2, .bool hf2, .string qu2, .string fr2]] w
      fun e w' => e = .returned (.bool (whomB sc1 us1 pa1 ho1 sc2 us2 pa2 ho2 hh1 hh2 po1 po2 && pathB op1 op2 tx1 tx2 p1 p2 && queryB hq1 hq2 qu1 qu2 && queryB hf1 hf2 fr1 fr2)) ∧ Below w.heap.size w w' := by
  have H1 := Lib.hid h1
  have H2 := Lib.hid h2
  clear h1 h2
  go_enter Tryd.func22, Tryd.ntmps22
  go_upto_region 1 with (fail)
  go_cut [5] (fun s5 wc => s5 = .bool (whomB sc1 us1 pa1 ho1 sc2 us2 pa2 ho2 hh1 hh2 po1 po2) ∧ wc = (w.alloc (.cells #[.string sc1, .string us1, .string pa1, .string ho1, .bool hh1, .int .i64 po1, .bool op1, .string tx1, .slice A1 p1.length c1, .bool hq1, .bool hf1, .string qu1, .string fr1] 24)).alloc (.cells #[.string sc2, .string us2, .string pa2, .string ho2, .bool hh2, .int .i64 po2, .bool op2, .string tx2, .slice A2 p2.length c2, .bool hq2, .bool hf2, .string qu2, .string fr2] 24))
  case first =>
    cases hh1 <;> cases hh2
    all_goals
      go_wp2_with fail
    all_goals
      go_meet
      refine ⟨?_, rfl⟩
      go_light
      simp [whomB, *]
  case rest =>
  obtain ⟨rfl, rfl⟩ := hcut
  go_upto_region 2 with (fail)
  go_cut [6] (fun s6 wc => s6 = .bool (pathB op1 op2 tx1 tx2 p1 p2) ∧ ∃ q, wc = ((w.alloc (.cells #[.string sc1, .string us1, .string pa1, .string ho1, .bool hh1, .int .i64 po1, .bool op1, .string tx1, .slice A1 p1.length c1, .bool hq1, .bool hf1, .string qu1, .string fr1] 24)).alloc (.cells #[.string sc2, .string us2, .string pa2, .string ho2, .bool hh2, .int .i64 po2, .bool op2, .string tx2, .slice A2 p2.length c2, .bool hq2, .bool hf2, .string qu2, .string fr2] 24)).drewN q)
  case first =>
    cases op1 <;> cases op2
    all_goals
     go_wp2_with (first
      | (go_at_call 34; (refine (equal_any A1 A2 p1 p2 c1 c2 _ ((H1.out.alloc _).alloc _) ((H2.out.alloc _).alloc _)).mono ?_; rintro e w2 ⟨rfl, q, rfl⟩))
      | fail)
    all_goals
      go_meet
      refine ⟨?_, by first | exact ⟨_, rfl⟩ | exact ⟨0, rfl⟩⟩
      go_light
      simp [pathB, *]
  case rest =>
  obtain ⟨rfl, q, rfl⟩ := hcut
  go_upto_region 3 with (fail)
  go_cut [7] (fun s7 wc => s7 = .bool (queryB hq1 hq2 qu1 qu2) ∧ wc = ((w.alloc (.cells #[.string sc1, .string us1, .string pa1, .string ho1, .bool hh1, .int .i64 po1, .bool op1, .string tx1, .slice A1 p1.length c1, .bool hq1, .bool hf1, .string qu1, .string fr1] 24)).alloc (.cells #[.string sc2, .string us2, .string pa2, .string ho2, .bool hh2, .int .i64 po2, .bool op2, .string tx2, .slice A2 p2.length c2, .bool hq2, .bool hf2, .string qu2, .string fr2] 24)).drewN q)
  case first =>
    cases hq1 <;> cases hq2
    all_goals
      go_wp2_with fail
    all_goals
      go_meet
      refine ⟨?_, rfl⟩
      go_light
      simp [queryB, *]
  case rest =>
  obtain ⟨rfl, rfl⟩ := hcut
  have hbel : Below w.heap.size w ((w.alloc (.cells #[.string sc1, .string us1, .string pa1, .string ho1, .bool hh1, .int .i64 po1, .bool op1, .string tx1, .slice A1 p1.length c1, .bool hq1, .bool hf1, .string qu1, .string fr1] 24)).alloc (.cells #[.string sc2, .string us2, .string pa2, .string ho2, .bool hh2, .int .i64 po2, .bool op2, .string tx2, .slice A2 p2.length c2, .bool hq2, .bool hf2, .string qu2, .string fr2] 24)) := ((Below.refl _ _).alloc (Nat.le_refl _) _).alloc (by simp) _
  generalize hb1 : whomB sc1 us1 pa1 ho1 sc2 us2 pa2 ho2 hh1 hh2 po1 po2 = b1
  have HB1 := Lib.hid hb1
  clear hb1
  generalize hb2 : pathB op1 op2 tx1 tx2 p1 p2 = b2
  have HB2 := Lib.hid hb2
  clear hb2
  generalize hb3 : queryB hq1 hq2 qu1 qu2 = b3
  have HB3 := Lib.hid hb3
  clear hb3
  cases hf1 <;> cases hf2 <;> cases b1 <;> cases b2 <;> cases b3
  all_goals
    go_wp2_with fail
  all_goals
    go_ret
    refine ⟨congrArg (fun b => Ending.returned (.bool b)) ?_, ⟨hbel.os, hbel.tape, hbel.output, hbel.size, hbel.block⟩⟩
    rw [HB1.out, HB2.out, HB3.out]
    go_light
    simp [queryB, *]
end Go.Proofs.YtlhpncpihbpkoaaDoor
