/- url.Bare, url.Print: walked. -/
import Derived.Test.YtlhpncpihbpkoaaDoorUrl2
import Derived.Deep.RegionHeld3
import Derived.WalkKit
import Derived.Lib.Hide
import Derived.Deep.DeepMust
namespace Go.Proofs.YtlhpncpihbpkoaaDoor
open Go.RowKit

def dotL (hh op : Bool) (ps : List ByteArray) : List UInt8 := if hh = false ∧ op = false ∧ 1 < ps.length ∧ (ps.getD 0 ByteArray.empty).data.toList = [] then [47, 46] else []
def quL (hq : Bool) (qu : ByteArray) : List UInt8 := if hq then 63 :: qu.data.toList else []
def bareL (sc us pa ho tx qu : ByteArray) (hh op hq : Bool) (po : Int) (ps : List ByteArray) : List UInt8 :=
  sc.data.toList ++ [58] ++ authL us pa ho hh po ++ dotL hh op ps ++ pathL op tx ps ++ quL hq qu
theorem dot_yes {s0 : ByteArray} {ps : List ByteArray} (hl : 1 < ps.length) (hs : s0 = ps.getD 0 ByteArray.empty) (h : s0.toList.isEmpty = true) : dotL false false ps = [47, 46] := by
  rw [ByteArray.toList_eq] at h
  unfold dotL
  rw [if_pos ⟨rfl, rfl, hl, by rw [← hs]; simpa using h⟩]
theorem dot_no {s0 : ByteArray} {ps : List ByteArray} (hs : s0 = ps.getD 0 ByteArray.empty) (h : s0.toList.isEmpty = false) : dotL false false ps = [] := by
  rw [ByteArray.toList_eq] at h
  unfold dotL
  rw [if_neg (fun e => by rw [← hs] at e; rw [e.2.2.2] at h; simp at h)]
theorem dot_short {ps : List ByteArray} (hl : ¬ 1 < ps.length) (hh op : Bool) : dotL hh op ps = [] := by
  unfold dotL
  rw [if_neg (fun e => hl e.2.2.1)]
theorem dot_hh (op : Bool) (ps : List ByteArray) : dotL true op ps = [] := by
  unfold dotL
  rw [if_neg (fun e => by cases e.1)]
theorem dot_op (hh : Bool) (ps : List ByteArray) : dotL hh true ps = [] := by
  unfold dotL
  rw [if_neg (fun e => by cases e.2.1)]
theorem qu_yes {hq : Bool} (qu : ByteArray) (h : hq = true) : quL hq qu = 63 :: qu.data.toList := by subst h; rfl
theorem qu_no {hq : Bool} (qu : ByteArray) (h : hq = false) : quL hq qu = [] := by subst h; rfl

set_option maxHeartbeats 2000000 in
set_option maxRecDepth 100000 in
theorem bare_any (sc us pa ho tx qu fr : ByteArray) (hh op hq hf : Bool) (po : Int) (A : Option Addr) (ps : List ByteArray) (c : Nat) (w : World) (ht : Tab w) (hp : TextsAt w A ps)
    (hs : sc.size + us.size + pa.size + ho.size + tx.size + qu.size + ps.length + sumSizes ps ≤ 1000000) (h0 : -9223372036854775808 ≤ po) (h1 : po ≤ 9223372036854775807) :
    Calls Tryd.prog 16 #[.agg #[.string sc, .string us, .string pa, .string ho, .bool hh, .int .i64 po, .bool op, .string tx, .slice A ps.length c, .bool hq, .bool hf, .string qu, .string fr]] w
      fun e w' => e = .returned (.string (bs (bareL sc us pa ho tx qu hh op hq po ps))) ∧ Below w.heap.size w w' := by
  have ha := fun W (hW : Tab W) => auth_any sc us pa ho tx qu fr hh op hq hf po A ps.length c W hW (by omega) h0 h1
  have HA := Lib.hid ha
  clear ha
  have ht1 : Tab (w.alloc (.cells #[.string sc, .string us, .string pa, .string ho, .bool hh, .int .i64 po, .bool op, .string tx, .slice A ps.length c, .bool hq, .bool hf, .string qu, .string fr] 24)) := ht.alloc _
  have hal : (authL us pa ho hh po).length ≤ 1001000 := authL_le us pa ho hh po h0 h1 (by omega)
  have hal2 : (bs (authL us pa ho hh po)).size ≤ 1001000 := hal
  have hpl : (bs (pathL op tx ps)).size ≤ 2000000 := pathL_le op tx ps (by omega)
  have e1 := add_run sc ⟨#[58]⟩ (by have : ByteArray.size ⟨#[58]⟩ = 1 := rfl; omega)
  have e2 := add_run (sc ++ ⟨#[58]⟩) (bs (authL us pa ho hh po)) (by have : ByteArray.size ⟨#[58]⟩ = 1 := rfl; rw [ByteArray.size_append, bs_size]; omega)
  go_enter Tryd.func16, Tryd.ntmps16
  go_wp2_with fail
  go_region_held3 (fun w' => w'.cell? ⟨w.heap.size, 0, none⟩ = some (.string sc) ∧ w'.cell? ⟨w.heap.size, 1, none⟩ = some (.string us) ∧ w'.cell? ⟨w.heap.size, 2, none⟩ = some (.string pa) ∧ w'.cell? ⟨w.heap.size, 3, none⟩ = some (.string ho) ∧ w'.cell? ⟨w.heap.size, 4, none⟩ = some (.bool hh) ∧ w'.cell? ⟨w.heap.size, 5, none⟩ = some (.int .i64 po) ∧ w'.cell? ⟨w.heap.size, 6, none⟩ = some (.bool op) ∧ w'.cell? ⟨w.heap.size, 7, none⟩ = some (.string tx) ∧ w'.cell? ⟨w.heap.size, 8, none⟩ = some (.slice A ps.length c) ∧ w'.cell? ⟨w.heap.size, 9, none⟩ = some (.bool hq) ∧ w'.cell? ⟨w.heap.size, 10, none⟩ = some (.bool hf) ∧ w'.cell? ⟨w.heap.size, 11, none⟩ = some (.string qu) ∧ w'.cell? ⟨w.heap.size, 12, none⟩ = some (.string fr))
    (first
      | go_keep
      | (have hcell := fun o => hb2.cell (p := ⟨w.heap.size, o, none⟩) (by simp); refine ⟨?_, ?_, ?_, ?_, ?_, ?_, ?_, ?_, ?_, ?_, ?_, ?_, ?_⟩ <;> (rw [hcell]; simp)))
    (first
      | (go_at_call 30; refine (HA.out _ (by first | assumption | exact ht1)).mono ?_; rintro e w2 ⟨rfl, hb2⟩))
  clear e1 e2
  have hcell := fun o => hb2.cell (p := ⟨w.heap.size, o, none⟩) (by simp)
  have hp2 : TextsAt w2 A ps := (show TextsAt (w.alloc (.cells #[.string sc, .string us, .string pa, .string ho, .bool hh, .int .i64 po, .bool op, .string tx, .slice A ps.length c, .bool hq, .bool hf, .string qu, .string fr] 24)).drew A ps from hp.alloc _).below (Nat.le_refl _) hb2
  have HP2 := Lib.hid hp2
  have hpa := fun W (hW : TextsAt W A ps) => path_any sc us pa ho tx qu fr hh hq hf op po A ps c W hW (by omega)
  have HPA := Lib.hid hpa
  clear hpa hp2 HA
  have hb2' : Below (w.heap.size + 1) (w.alloc (.cells #[.string sc, .string us, .string pa, .string ho, .bool hh, .int .i64 po, .bool op, .string tx, .slice A ps.length c, .bool hq, .bool hf, .string qu, .string fr] 24)) w2 := ⟨hb2.os, hb2.tape, hb2.output, hb2.size, fun i hi => hb2.block i (by simpa using hi)⟩
  clear hb2
  have hlt2 : w.heap.size < w2.heap.size := by have := hb2'.size; simp at this; omega
  by_cases hlen : 1 < ps.length
  · obtain ⟨ad, rfl, hc⟩ := (HP2.out).2 (by omega)
    have hc0 : w2.cell? ad = some (.string (ps.getD 0 ByteArray.empty)) := by simpa [Addr.add] using hc 0 (by omega)
    obtain ⟨s0, hs0⟩ : ∃ s0, s0 = ps.getD 0 ByteArray.empty := ⟨_, rfl⟩
    rw [← hs0] at hc0
    have HS0 := Lib.hid hs0
    clear hc hs0
    cases hh <;> cases op
    all_goals
      go_wp2_with (first
        | (go_at_call 17; (refine (HPA.out _ (by exact HP2.out)).mono ?_; rintro e w3 ⟨rfl, hb3⟩; have hcell3 := fun o => hb3.cell (p := ⟨w.heap.size, o, none⟩) (by exact hlt2)))
        | fail)
    all_goals
      go_ret
      refine ⟨ret_str ?_, ((Below.refl _ _).alloc (Nat.le_refl _) _).trans ((hb2'.mono (Nat.le_succ _)).trans (hb3.mono (Nat.le_of_lt hlt2)))⟩
      simp only [bs_list, list_append, bareL]
      first | rw [qu_yes _ (by assumption)] | rw [qu_no _ (by assumption)]
      first | rw [dot_hh] | rw [dot_op] | rw [dot_yes hlen HS0.out (by assumption)] | rw [dot_no HS0.out (by assumption)]
      simp
  · cases hh <;> cases op
    all_goals
      go_wp2_with (first
        | (go_at_call 17; (refine (HPA.out _ (by exact HP2.out)).mono ?_; rintro e w3 ⟨rfl, hb3⟩; have hcell3 := fun o => hb3.cell (p := ⟨w.heap.size, o, none⟩) (by exact hlt2)))
        | fail)
    all_goals
      go_ret
      refine ⟨ret_str ?_, ((Below.refl _ _).alloc (Nat.le_refl _) _).trans ((hb2'.mono (Nat.le_succ _)).trans (hb3.mono (Nat.le_of_lt hlt2)))⟩
      simp only [bs_list, list_append, bareL]
      first | rw [qu_yes _ (by assumption)] | rw [qu_no _ (by assumption)]
      rw [dot_short hlen]
      simp
end Go.Proofs.YtlhpncpihbpkoaaDoor
