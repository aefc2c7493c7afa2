/- Two laws about likeness of URLs, in plain Lean: a URL is like itself; likeness does not depend on the order. No conditions. -/
import Derived.Test.YtlhpncpihbpkoaaDoorUrl5
namespace Go.Proofs.YtlhpncpihbpkoaaDoor

theorem list_comm (x y : List UInt8) : (x == y) = (y == x) := by rw [Bool.eq_iff_iff, beq_iff_eq, beq_iff_eq]; exact ⟨Eq.symm, Eq.symm⟩
theorem int_comm (x y : Int) : (x == y) = (y == x) := by rw [Bool.eq_iff_iff, beq_iff_eq, beq_iff_eq]; exact ⟨Eq.symm, Eq.symm⟩
theorem dec_comm (x y : List ByteArray) : decide (x = y) = decide (y = x) := decide_eq_decide.2 ⟨Eq.symm, Eq.symm⟩
theorem same_refl (sc1 us1 pa1 ho1 tx1 qu1 fr1 : ByteArray) (hh1 op1 hq1 hf1 : Bool) (po1 : Int) (ps1 : List ByteArray) : (whomB sc1 us1 pa1 ho1 sc1 us1 pa1 ho1 hh1 hh1 po1 po1 && pathB op1 op1 tx1 tx1 ps1 ps1 && queryB hq1 hq1 qu1 qu1 && queryB hf1 hf1 fr1 fr1) = true := by
  cases hh1 <;> cases op1 <;> cases hq1 <;> cases hf1 <;> simp [whomB, pathB, queryB]
theorem same_sym (sc1 us1 pa1 ho1 tx1 qu1 fr1 : ByteArray) (hh1 op1 hq1 hf1 : Bool) (po1 : Int) (ps1 : List ByteArray) (sc2 us2 pa2 ho2 tx2 qu2 fr2 : ByteArray) (hh2 op2 hq2 hf2 : Bool) (po2 : Int) (ps2 : List ByteArray) : (whomB sc2 us2 pa2 ho2 sc1 us1 pa1 ho1 hh2 hh1 po2 po1 && pathB op2 op1 tx2 tx1 ps2 ps1 && queryB hq2 hq1 qu2 qu1 && queryB hf2 hf1 fr2 fr1) = (whomB sc1 us1 pa1 ho1 sc2 us2 pa2 ho2 hh1 hh2 po1 po2 && pathB op1 op2 tx1 tx2 ps1 ps2 && queryB hq1 hq2 qu1 qu2 && queryB hf1 hf2 fr1 fr2) := by
  have w : whomB sc2 us2 pa2 ho2 sc1 us1 pa1 ho1 hh2 hh1 po2 po1 = whomB sc1 us1 pa1 ho1 sc2 us2 pa2 ho2 hh1 hh2 po1 po2 := by
    unfold whomB; rw [list_comm sc2.toList, list_comm us2.toList, list_comm pa2.toList, list_comm ho2.toList, int_comm po2]; cases hh1 <;> cases hh2 <;> simp
  have p : pathB op2 op1 tx2 tx1 ps2 ps1 = pathB op1 op2 tx1 tx2 ps1 ps2 := by
    unfold pathB; rw [list_comm tx2.toList, dec_comm ps2]; cases op1 <;> cases op2 <;> simp
  have q : ∀ (a b : Bool) (x y : ByteArray), queryB b a y x = queryB a b x y := by
    intro a b x y; unfold queryB; rw [list_comm y.toList]; cases a <;> cases b <;> simp
  rw [w, p, q hq1 hq2, q hf1 hf2]
end Go.Proofs.YtlhpncpihbpkoaaDoor
