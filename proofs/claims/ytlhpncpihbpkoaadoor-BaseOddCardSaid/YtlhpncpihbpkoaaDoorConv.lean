/- string(b) of a slice of bytes that is read, and of a row that the call made. Conditions stand in the statements. -/
import Derived.Test.YtlhpncpihbpkoaaDoorBase5
import Derived.Laws.IdiomStrings
namespace Go.Proofs.YtlhpncpihbpkoaaDoor
open Go.RowKit

theorem convert_zero (w : World) (p : Option Addr) (c : Nat) : (convert 35 9 (.slice p 0 c)).run Tryd.prog w = .ok (.string (bs [])) w := by
  rw [run_convert_bytes_string w 35 9 5 _ 0 c Tryd.underlying35 Tryd.underlying5 Tryd.underlying9]
  cases p <;> simp [Conv.bytesToString, loadCells]
  all_goals rfl
theorem bytes_text (w : World) (A : Option Addr) (c c2 : Nat) (l : List UInt8) (h : BytesAt w A l c) : (convert 35 9 (.slice A l.length c2)).run Tryd.prog w = .ok (.string (bs l)) w := by
  rcases Nat.eq_zero_or_pos l.length with h0 | h0
  · obtain rfl := List.eq_nil_of_length_eq_zero h0
    exact convert_zero w A c2
  · obtain ⟨b, o, rfl, hc⟩ := h.2 h0
    refine run_convert_bytes_back w 35 9 5 ⟨b, o, none⟩ c2 l Tryd.underlying35 Tryd.underlying5 Tryd.underlying9 (fun j hj => ?_)
    have e : ((⟨b, o, none⟩ : Addr).add j) = ⟨b, o + j, none⟩ := by unfold Addr.add; split <;> simp_all
    rw [e]
    exact hc j l[j] (by simp [hj])
theorem own_bytes {B : Nat} {v : Value} {l : List UInt8} {w : World} (h : Own B v l w) : ∃ A c, v = .slice A l.length c ∧ BytesAt w A l c := by
  rcases h.2 with ⟨hv, hn⟩ | ⟨g, cap, cur, hv, hg, hh, h1, h2, h3, h4⟩
  · have := List.eq_nil_of_length_eq_zero hn
    subst this
    exact ⟨none, 0, hv, Nat.le_refl _, fun h => by simp at h⟩
  · refine ⟨_, cap, hv, h1, fun hn => ⟨g, 0, rfl, fun j x hj => ?_⟩⟩
    obtain ⟨b, c, e, _, hc⟩ := Own.cell h hj
    rw [hv] at e
    cases e
    simpa using hc
theorem own_text {B : Nat} {v : Value} {l : List UInt8} {w : World} (h : Own B v l w) : (convert 35 9 v).run Tryd.prog w = .ok (.string (bs l)) w := by
  obtain ⟨A, c, rfl, hb⟩ := own_bytes h
  exact bytes_text w A c c l hb
end Go.Proofs.YtlhpncpihbpkoaaDoor
