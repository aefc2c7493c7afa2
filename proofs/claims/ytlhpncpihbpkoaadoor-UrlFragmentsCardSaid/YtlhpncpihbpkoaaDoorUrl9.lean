/- The reference's Same: walked. -/
import Derived.Test.YtlhpncpihbpkoaaDoorUrl7
import Derived.WalkKit
import Derived.Lib.Hide
import Derived.Deep.DeepCutAuto
import Derived.Deep.Light
import Derived.Deep.DeepMust
namespace Go.Proofs.YtlhpncpihbpkoaaDoor
open Go.RowKit

theorem below_two (w : World) (o1 o2 : Obj) : Below w.heap.size w ((w.alloc o1).alloc o2) := ((Below.refl _ _).alloc (Nat.le_refl _) _).alloc (by simp) _

theorem below_two_drewN (w : World) (o1 o2 : Obj) (q : Nat) : Below w.heap.size w (((w.alloc o1).alloc o2).drewN q) :=
  have h := below_two w o1 o2
  ⟨h.os, h.tape, h.output, h.size, h.block⟩
def partB (h : Bool) (x y : ByteArray) : Bool := h && !(x.toList == y.toList)

theorem same_core (sc1 us1 pa1 ho1 tx1 qu1 fr1 sc2 us2 pa2 ho2 tx2 qu2 fr2 : ByteArray) (hh op hq hf : Bool) (po : Int) (p1 p2 : List ByteArray)
    (e1 : (sc1.toList == sc2.toList) = true) (e2 : (us1.toList == us2.toList) = true) (e3 : (pa1.toList == pa2.toList) = true) :
    (whomB sc1 us1 pa1 ho1 sc2 us2 pa2 ho2 hh hh po po && pathB op op tx1 tx2 p1 p2 && queryB hq hq qu1 qu2 && queryB hf hf fr1 fr2) = (!(partB hh ho1 ho2 || partB hq qu1 qu2 || partB hf fr1 fr2) && pathB op op tx1 tx2 p1 p2) := by
  unfold whomB queryB partB
  rw [e1, e2, e3]
  generalize pathB op op tx1 tx2 p1 p2 = x
  generalize (ho1.toList == ho2.toList) = y
  generalize (qu1.toList == qu2.toList) = z
  generalize (fr1.toList == fr2.toList) = u
  simp only [beq_self_eq_true]
  cases hh <;> cases hq <;> cases hf <;> cases x <;> cases y <;> cases z <;> cases u <;> rfl

set_option maxHeartbeats 4000000 in
set_option maxRecDepth 100000 in
theorem rsameurl_any (sc1 us1 pa1 ho1 tx1 qu1 fr1 : ByteArray) (hh1 op1 hq1 hf1 : Bool) (po1 : Int) (A1 : Option Addr) (p1 : List ByteArray) (c1 : Nat) (sc2 us2 pa2 ho2 tx2 qu2 fr2 : ByteArray) (hh2 op2 hq2 hf2 : Bool) (po2 : Int) (A2 : Option Addr) (p2 : List ByteArray) (c2 : Nat) (w : World) (h1 : TextsAt w A1 p1) (h2 : TextsAt w A2 p2) :
    Calls Tryd.prog 23 #[.agg #[.string sc1, .string us1, .string pa1, .string ho1, .bool hh1, .int .i64 po1, .bool op1, .string tx1, .slice A1 p1.length c1, .bool hq1, .bool hf1, .string qu1, .string fr1], .agg #[.string sc2, .string us2, .string pa2, .string ho2, .bool hh2, .int .i64 po2, .bool op2, .string tx2, .slice A2 p2.length c2, .bool hq2, .bool hf2, .string qu2, .string fr2]] w
      fun e w' => e = .returned (.bool (whomB sc1 us1 pa1 ho1 sc2 us2 pa2 ho2 hh1 hh2 po1 po2 && pathB op1 op2 tx1 tx2 p1 p2 && queryB hq1 hq2 qu1 qu2 && queryB hf1 hf2 fr1 fr2)) ∧ Below w.heap.size w w' := by
  have H1 := Lib.hid h1
  have H2 := Lib.hid h2
  clear h1 h2
  cases e1 : (sc1.toList == sc2.toList)
  · go_enter Tryd.func23, Tryd.ntmps23
    go_wp2_with fail
    go_ret
    exact ⟨congrArg (fun b => Ending.returned (.bool b)) (by go_light; simp [whomB, pathB, queryB, *]), below_two w _ _⟩
  cases e2 : (us1.toList == us2.toList)
  · go_enter Tryd.func23, Tryd.ntmps23
    go_wp2_with fail
    go_ret
    exact ⟨congrArg (fun b => Ending.returned (.bool b)) (by go_light; simp [whomB, pathB, queryB, *]), below_two w _ _⟩
  cases e3 : (pa1.toList == pa2.toList)
  · go_enter Tryd.func23, Tryd.ntmps23
    go_wp2_with fail
    go_ret
    exact ⟨congrArg (fun b => Ending.returned (.bool b)) (by go_light; simp [whomB, pathB, queryB, *]), below_two w _ _⟩
  by_cases e4 : ¬ hh1 = hh2
  · cases hh1 <;> cases hh2 <;> first | exact absurd rfl e4 | skip
    all_goals
      clear e4
      go_enter Tryd.func23, Tryd.ntmps23
      go_wp2_with fail
      go_ret
      exact ⟨congrArg (fun b => Ending.returned (.bool b)) (by go_light; simp [whomB, pathB, queryB, *]), below_two w _ _⟩
  obtain rfl := Decidable.not_not.1 e4
  clear e4
  by_cases e5 : ¬ po1 = po2
  · have e5' : (po1 != po2) = true := by simpa using e5
    have e5'' : (po1 == po2) = false := by simpa using e5
    clear e5
    go_enter Tryd.func23, Tryd.ntmps23
    go_wp2_with fail
    go_ret
    exact ⟨congrArg (fun b => Ending.returned (.bool b)) (by go_light; simp [whomB, pathB, queryB, *]), below_two w _ _⟩
  obtain rfl := Decidable.not_not.1 e5
  clear e5
  by_cases e6 : ¬ op1 = op2
  · cases op1 <;> cases op2 <;> first | exact absurd rfl e6 | skip
    all_goals
      clear e6
      go_enter Tryd.func23, Tryd.ntmps23
      go_wp2_with fail
      go_ret
      exact ⟨congrArg (fun b => Ending.returned (.bool b)) (by go_light; simp [whomB, pathB, queryB, *]), below_two w _ _⟩
  obtain rfl := Decidable.not_not.1 e6
  clear e6
  by_cases e7 : ¬ hq1 = hq2
  · cases hq1 <;> cases hq2 <;> first | exact absurd rfl e7 | skip
    all_goals
      clear e7
      go_enter Tryd.func23, Tryd.ntmps23
      go_wp2_with fail
      go_ret
      exact ⟨congrArg (fun b => Ending.returned (.bool b)) (by go_light; simp [whomB, pathB, queryB, *]), below_two w _ _⟩
  obtain rfl := Decidable.not_not.1 e7
  clear e7
  by_cases e8 : ¬ hf1 = hf2
  · cases hf1 <;> cases hf2 <;> first | exact absurd rfl e8 | skip
    all_goals
      clear e8
      go_enter Tryd.func23, Tryd.ntmps23
      go_wp2_with fail
      go_ret
      exact ⟨congrArg (fun b => Ending.returned (.bool b)) (by go_light; simp [whomB, pathB, queryB, *]), below_two w _ _⟩
  obtain rfl := Decidable.not_not.1 e8
  clear e8
  go_enter Tryd.func23, Tryd.ntmps23
  go_upto_region 3 with (fail)
  go_cut [89] (fun s89 wc => s89 = .bool (partB hh1 ho1 ho2 || partB hq1 qu1 qu2 || partB hf1 fr1 fr2) ∧ wc = (w.alloc (.cells #[.string sc1, .string us1, .string pa1, .string ho1, .bool hh1, .int .i64 po1, .bool op1, .string tx1, .slice A1 p1.length c1, .bool hq1, .bool hf1, .string qu1, .string fr1] 24)).alloc (.cells #[.string sc2, .string us2, .string pa2, .string ho2, .bool hh1, .int .i64 po1, .bool op1, .string tx2, .slice A2 p2.length c2, .bool hq1, .bool hf1, .string qu2, .string fr2] 24))
  case first =>
    cases hh1 <;> cases hq1 <;> cases hf1
    all_goals
      go_wp2_with fail
    all_goals
      go_meet
      refine ⟨?_, rfl⟩
      go_light
      simp [partB, *]
  case rest =>
  obtain ⟨rfl, rfl⟩ := hcut
  generalize hb : (partB hh1 ho1 ho2 || partB hq1 qu1 qu2 || partB hf1 fr1 fr2) = b
  have HB := Lib.hid hb
  clear hb
  have E1 := Lib.hid e1
  have E2 := Lib.hid e2
  have E3 := Lib.hid e3
  clear e1 e2 e3
  cases b
  · cases op1
    · go_wp2_with (first
        | (go_at_call 35; refine (rsame_any A1 A2 p1 p2 c1 c2 _ ((H1.out.alloc _).alloc _) ((H2.out.alloc _).alloc _)).mono ?_; rintro e w2 ⟨rfl, q, rfl⟩)
        | fail)
      go_ret
      refine ⟨congrArg (fun b => Ending.returned (.bool b)) ?_, below_two_drewN w _ _ q⟩
      rw [same_core _ _ _ _ _ _ _ _ _ _ _ _ _ _ _ _ _ _ _ _ _ E1.out E2.out E3.out, HB.out]
      simp [pathB]
    · go_wp2_with fail
      go_ret
      refine ⟨congrArg (fun b => Ending.returned (.bool b)) ?_, below_two w _ _⟩
      rw [same_core _ _ _ _ _ _ _ _ _ _ _ _ _ _ _ _ _ _ _ _ _ E1.out E2.out E3.out, HB.out]
      simp [pathB]
  · go_wp2_with fail
    go_ret
    refine ⟨congrArg (fun b => Ending.returned (.bool b)) ?_, below_two w _ _⟩
    rw [same_core _ _ _ _ _ _ _ _ _ _ _ _ _ _ _ _ _ _ _ _ _ E1.out E2.out E3.out, HB.out]
    rfl
end Go.Proofs.YtlhpncpihbpkoaaDoor
