/- The reference's Print: walked. -/
import Derived.Test.YtlhpncpihbpkoaaDoorUrl4
import Derived.Test.YtlhpncpihbpkoaaDoorUrl6
import Derived.Test.YtlhpncpihbpkoaaDoorUrl7
import Derived.WalkKit
import Derived.Lib.Hide
import Derived.Deep.DeepCutAuto
import Derived.Deep.Light
import Derived.Deep.DeepMust
namespace Go.Proofs.YtlhpncpihbpkoaaDoor
open Go.RowKit

theorem atL_app_yes {us pa : ByteArray} (h : (!(us ++ pa).toList.isEmpty) = true) : atL us pa = [64] := by
  rw [ByteArray.toList_eq, list_append] at h
  unfold atL
  rw [if_neg (fun e => by rw [e.1, e.2] at h; simp at h)]
theorem atL_app_no {us pa : ByteArray} (h : (!(us ++ pa).toList.isEmpty) = false) : atL us pa = [] := by
  rw [ByteArray.toList_eq, list_append] at h
  unfold atL
  rw [if_pos (by simpa using h)]
theorem str_eq {X : ByteArray} {L : List UInt8} (h : X.data.toList = L) : Value.string X = .string (bs L) := by
  rw [show X = bs L from WideShapes.bytes_inj h]

set_option maxHeartbeats 4000000 in
set_option maxRecDepth 100000 in
theorem rprint_any (fg : Bool) (sc us pa ho tx qu fr : ByteArray) (hh op hq hf : Bool) (po : Int) (A : Option Addr) (ps : List ByteArray) (c : Nat) (w : World) (hp : TextsAt w A ps)
    (hs : sc.size + us.size + pa.size + ho.size + tx.size + qu.size + fr.size + ps.length + sumSizes ps ≤ 1000000) (h0 : -9223372036854775808 ≤ po) (h1 : po ≤ 9223372036854775807) :
    Calls Tryd.prog 15 #[.agg #[.string sc, .string us, .string pa, .string ho, .bool hh, .int .i64 po, .bool op, .string tx, .slice A ps.length c, .bool hq, .bool hf, .string qu, .string fr], .bool fg] w
      fun e w' => e = .returned (.string (bs (printL sc us pa ho tx qu fr hh op hq (hf && fg) po ps))) ∧ Below w.heap.size w w' := by
  obtain ⟨w1, hw1⟩ : ∃ w1, w1 = w.alloc (.cells #[.string sc, .string us, .string pa, .string ho, .bool hh, .int .i64 po, .bool op, .string tx, .slice A ps.length c, .bool hq, .bool hf, .string qu, .string fr] 24) := ⟨_, rfl⟩
  have hz : w1.heap.size = w.heap.size + 1 := by rw [hw1]; simp
  have hp1 : TextsAt w1 A ps := by rw [hw1]; exact hp.alloc _
  have hbel : Below w.heap.size w w1 := by rw [hw1]; exact (Below.refl _ _).alloc (Nat.le_refl _) _
  have hit : (bs (Lib.itoa po)).size ≤ 400 := itoa_le po h0 h1
  have hcells : ∀ o v, (w.alloc (.cells #[.string sc, .string us, .string pa, .string ho, .bool hh, .int .i64 po, .bool op, .string tx, .slice A ps.length c, .bool hq, .bool hf, .string qu, .string fr] 24)).cell? ⟨w.heap.size, o, none⟩ = some v → w1.cell? ⟨w.heap.size, o, none⟩ = some v := fun o v h => by rw [hw1]; exact h
  have c0 := hcells 0 (.string sc) (by simp)
  have c1 := hcells 1 (.string us) (by simp)
  have c2 := hcells 2 (.string pa) (by simp)
  have c3 := hcells 3 (.string ho) (by simp)
  have c4 := hcells 4 (.bool hh) (by simp)
  have c5 := hcells 5 (.int .i64 po) (by simp)
  have c6 := hcells 6 (.bool op) (by simp)
  have c7 := hcells 7 (.string tx) (by simp)
  have c8 := hcells 8 (.slice A ps.length c) (by simp)
  have c9 := hcells 9 (.bool hq) (by simp)
  have c10 := hcells 10 (.bool hf) (by simp)
  have c11 := hcells 11 (.string qu) (by simp)
  have c12 := hcells 12 (.string fr) (by simp)
  have HP := Lib.hid hp1
  have HZ := Lib.hid hz
  clear hp1 hp hz hcells
  have hpo := fun W => port_any po W h0 h1
  have HPO := Lib.hid hpo
  clear hpo
  go_enter Tryd.func15, Tryd.ntmps15
  go_upto_if 10 with (fail)
  rw [← hw1]
  clear hw1
  go_cut [5] (fun s5 wc => s5 = .string (bs (sc.data.toList ++ [58] ++ authL us pa ho hh po ++ dotL hh op ps)) ∧ Below w1.heap.size w1 wc)
  case first =>
    cases hh
    · cases op
      · by_cases hlen : 1 < ps.length
        · obtain ⟨ad, rfl, hc⟩ := (HP.out).2 (by omega)
          have hc0 : w1.cell? ad = some (.string (ps.getD 0 ByteArray.empty)) := by simpa [Addr.add] using hc 0 (by omega)
          obtain ⟨s0, hs0⟩ : ∃ s0, s0 = ps.getD 0 ByteArray.empty := ⟨_, rfl⟩
          rw [← hs0] at hc0
          have HS0 := Lib.hid hs0
          clear hc hs0
          go_wp2_with fail
          all_goals
            go_meet
            refine ⟨str_eq ?_, Below.refl _ _⟩
            first | rw [dot_yes hlen HS0.out (by assumption)] | rw [dot_no HS0.out (by assumption)]
            simp [list_append, authL]
        · go_wp2_with fail
          all_goals
            go_meet
            refine ⟨str_eq ?_, Below.refl _ _⟩
            rw [dot_short hlen]
            simp [list_append, authL]
      · go_wp2_with fail
        all_goals
          go_meet
          refine ⟨str_eq ?_, Below.refl _ _⟩
          rw [dot_op]
          simp [list_append, authL]
    · go_wp2_with (first
        | (go_at_call 29; refine (HPO.out _).mono ?_; rintro e w2 ⟨rfl, hb2⟩)
        | fail)
      all_goals
        go_meet
        refine ⟨str_eq ?_, by first | exact Below.refl _ _ | exact hb2⟩
        rw [dot_hh]
        show _ = _ ++ ([47, 47] ++ us.data.toList ++ pwL pa ++ atL us pa ++ ho.data.toList ++ portL po) ++ _
        first | rw [portL_yes (by assumption)] | rw [portL_no (by assumption)]
        first | rw [pwL_yes (by assumption)] | rw [pwL_no (by assumption)]
        first | rw [atL_app_yes (by assumption)] | rw [atL_app_no (by assumption)]
        simp [list_append, bs]
  case rest =>
  obtain ⟨rfl, hbc⟩ := hcut
  have hcc : ∀ o v, w1.cell? ⟨w.heap.size, o, none⟩ = some v → wc.cell? ⟨w.heap.size, o, none⟩ = some v := fun o v h => (hbc.cell (p := ⟨w.heap.size, o, none⟩) (by have := HZ.out; simp; omega)).trans h
  replace c0 := hcc 0 _ c0
  replace c1 := hcc 1 _ c1
  replace c2 := hcc 2 _ c2
  replace c3 := hcc 3 _ c3
  replace c4 := hcc 4 _ c4
  replace c5 := hcc 5 _ c5
  replace c6 := hcc 6 _ c6
  replace c7 := hcc 7 _ c7
  replace c8 := hcc 8 _ c8
  replace c9 := hcc 9 _ c9
  replace c10 := hcc 10 _ c10
  replace c11 := hcc 11 _ c11
  replace c12 := hcc 12 _ c12
  clear hcc
  have hpc := HP.out.below (Nat.le_refl _) hbc
  have hsz := hbc.size
  have hL0 : (bs (sc.data.toList ++ [58] ++ authL us pa ho hh po ++ dotL hh op ps)).size ≤ 2100000 := by
    have k1 := authL_le us pa ho hh po h0 h1 (by omega)
    have k3 : (dotL hh op ps).length ≤ 2 := by unfold dotL; split <;> simp
    simp [bs_size, len_list]
    omega
  have hpl : (bs (pathL op tx ps)).size ≤ 2000000 := pathL_le op tx ps (by omega)
  have hfin : bs (sc.data.toList ++ [58] ++ authL us pa ho hh po ++ dotL hh op ps) ++ bs (pathL op tx ps) ++ bs (quL hq qu) = bs (bareL sc us pa ho tx qu hh op hq po ps) := by
    simp [bs_append, bareL]
  have HF := Lib.hid hfin
  have hrp := fun W (hW : TextsAt W A ps) => rpath_any sc us pa ho tx qu fr hh op hq hf po A ps c W hW (by omega)
  have HRP := Lib.hid hrp
  have HPC := Lib.hid hpc
  clear hfin hrp hpc
  generalize hL : bs (sc.data.toList ++ [58] ++ authL us pa ho hh po ++ dotL hh op ps) = L0 at hL0 HF ⊢
  clear hL
  cases hf
  · cases fg
    all_goals
      go_wp2_with (first
        | (go_at_call 18; refine (HRP.out _ HPC.out).mono ?_; rintro e w2 ⟨rfl, hb2⟩; have hcell3 := fun o => hb2.cell (p := ⟨w.heap.size, o, none⟩) (by have := HZ.out; show w.heap.size < _; omega))
        | fail)
      all_goals
        go_ret
        have e := congrArg (fun s => s.data.toList) HF.out
        simp only [list_append, bs_list] at e
        refine ⟨ret_str ?_, hbel.trans ((hbc.mono (by have := HZ.out; omega)).trans (hb2.mono (by have := HZ.out; omega)))⟩
        simp only [list_append, bs_list, printL]
        rw [← e]
        first | rw [qu_yes _ (by assumption)] | rw [qu_no _ (by assumption)]
        simp
  · cases fg
    all_goals
      go_wp2_with (first
        | (go_at_call 18; refine (HRP.out _ HPC.out).mono ?_; rintro e w2 ⟨rfl, hb2⟩; have hcell3 := fun o => hb2.cell (p := ⟨w.heap.size, o, none⟩) (by have := HZ.out; show w.heap.size < _; omega))
        | fail)
      all_goals
        go_ret
        have e := congrArg (fun s => s.data.toList) HF.out
        simp only [list_append, bs_list] at e
        refine ⟨ret_str ?_, hbel.trans ((hbc.mono (by have := HZ.out; omega)).trans (hb2.mono (by have := HZ.out; omega)))⟩
        simp only [list_append, bs_list, printL]
        rw [← e]
        first | rw [qu_yes _ (by assumption)] | rw [qu_no _ (by assumption)]
        simp
end Go.Proofs.YtlhpncpihbpkoaaDoor
