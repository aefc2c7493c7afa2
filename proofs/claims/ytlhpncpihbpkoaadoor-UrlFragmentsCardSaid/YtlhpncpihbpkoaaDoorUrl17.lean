/- Plain laws about what is written of a URL with and without its fragment. No conditions. -/
import Derived.Test.YtlhpncpihbpkoaaDoorUrl4
import Derived.Test.YtlhpncpihbpkoaaDoorUrl5
namespace Go.Proofs.YtlhpncpihbpkoaaDoor

theorem frag_print (sc us pa ho tx qu g : ByteArray) (hh op hq : Bool) (po : Int) (ps : List ByteArray) : bs (printL sc us pa ho tx qu g hh op hq true po ps) = bs (bareL sc us pa ho tx qu hh op hq po ps) ++ ⟨#[35]⟩ ++ g := by
  have e : ∀ l : List UInt8, bs l ++ ⟨#[35]⟩ ++ g = bs (l ++ (35 :: g.data.toList)) := by
    intro l
    have : (⟨#[35]⟩ : ByteArray) = bs [35] := rfl
    have hg : g = bs g.data.toList := by simp [bs]
    rw [this, bs_append]
    conv => lhs; rw [hg]
    rw [bs_append]; simp
  rw [e]; simp [printL]
theorem frag_same (sc us pa ho tx qu fr : ByteArray) (hh op hq hf : Bool) (po : Int) (ps : List ByteArray) : (whomB sc us pa ho sc us pa ho hh hh po po && pathB op op tx tx ps ps && queryB hq hq qu qu && queryB hf false fr fr) = !hf := by
  cases hh <;> cases op <;> cases hq <;> cases hf <;> simp [whomB, pathB, queryB]
end Go.Proofs.YtlhpncpihbpkoaaDoor
