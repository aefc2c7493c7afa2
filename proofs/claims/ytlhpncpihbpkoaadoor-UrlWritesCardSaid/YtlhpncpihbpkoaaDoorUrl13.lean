/- UrlWrites, walked: it answers true of every input whose parts are no longer than a text may be. Conditions: the table of tens lies; the lists of texts lie as given. -/
import Derived.Test.YtlhpncpihbpkoaaDoorUrl10
import Derived.Test.YtlhpncpihbpkoaaDoorUrl9
import Derived.Test.YtlhpncpihbpkoaaDoorUrl12
import Derived.Test.YtlhpncpihbpkoaaDoorUrl8
import Derived.Test.YtlhpncpihbpkoaaDoorUrl6
import Derived.WalkKit
import Derived.Lib.Hide
import Derived.Deep.DeepCutAuto
import Derived.Deep.Light
import Derived.Deep.DeepMust
import Derived.Deep.RegionHeld3
namespace Go.Proofs.YtlhpncpihbpkoaaDoor
open Go.RowKit

set_option maxHeartbeats 8000000 in
set_option maxRecDepth 100000 in
theorem writes_any (sc us pa ho tx qu fr : ByteArray) (hh op hq hf : Bool) (po : Int) (A : Option Addr) (ps : List ByteArray) (c : Nat) (w : World) (ht : Tab w) (hp : TextsAt w A ps) (zsc : sc.size ≤ 140737488351232) (zus : us.size ≤ 140737488351232) (zpa : pa.size ≤ 140737488351232) (zho : ho.size ≤ 140737488351232) (ztx : tx.size ≤ 140737488351232) (zqu : qu.size ≤ 140737488351232) (zfr : fr.size ≤ 140737488351232) (zs : ∀ s ∈ ps, s.size ≤ 140737488351232) (h0 : -9223372036854775808 ≤ po) (h1 : po ≤ 9223372036854775807) :
    Calls Tryd.prog 3 #[.agg #[.string sc, .string us, .string pa, .string ho, .bool hh, .int .i64 po, .bool op, .string tx, .slice A ps.length c, .bool hq, .bool hf, .string qu, .string fr]] w fun e w' => e = .returned (.bool true) ∧ Below w.heap.size w w' := by
  obtain ⟨w1, hw1⟩ : ∃ w1, w1 = w.alloc (.cells #[.string sc, .string us, .string pa, .string ho, .bool hh, .int .i64 po, .bool op, .string tx, .slice A ps.length c, .bool hq, .bool hf, .string qu, .string fr] 24) := ⟨_, rfl⟩
  have hz : w1.heap.size = w.heap.size + 1 := by rw [hw1]; simp
  have hp1 : TextsAt w1 A ps := by rw [hw1]; exact hp.alloc _
  have ht1 : Tab w1 := by rw [hw1]; exact ht.alloc _
  have hb1 : Below w.heap.size w w1 := by rw [hw1]; exact (Below.refl _ _).alloc (Nat.le_refl _) _
  have hc1 : w1.cell? ⟨w.heap.size, 0, none⟩ = some (.string sc) ∧ w1.cell? ⟨w.heap.size, 1, none⟩ = some (.string us) ∧ w1.cell? ⟨w.heap.size, 2, none⟩ = some (.string pa) ∧ w1.cell? ⟨w.heap.size, 3, none⟩ = some (.string ho) ∧ w1.cell? ⟨w.heap.size, 4, none⟩ = some (.bool hh) ∧ w1.cell? ⟨w.heap.size, 5, none⟩ = some (.int .i64 po) ∧ w1.cell? ⟨w.heap.size, 6, none⟩ = some (.bool op) ∧ w1.cell? ⟨w.heap.size, 7, none⟩ = some (.string tx) ∧ w1.cell? ⟨w.heap.size, 8, none⟩ = some (.slice A ps.length c) ∧ w1.cell? ⟨w.heap.size, 9, none⟩ = some (.bool hq) ∧ w1.cell? ⟨w.heap.size, 10, none⟩ = some (.bool hf) ∧ w1.cell? ⟨w.heap.size, 11, none⟩ = some (.string qu) ∧ w1.cell? ⟨w.heap.size, 12, none⟩ = some (.string fr) := by rw [hw1]; simp
  have hS1 : Hid (Tab w1 ∧ Below w.heap.size w w1 ∧ TextsAt w1 A ps) := Lib.hid ⟨ht1, hb1, hp1⟩
  obtain ⟨S, hS⟩ : ∃ S : World → Prop, S = fun W => W.cell? ⟨w.heap.size, 0, none⟩ = some (.string sc) ∧ W.cell? ⟨w.heap.size, 1, none⟩ = some (.string us) ∧ W.cell? ⟨w.heap.size, 2, none⟩ = some (.string pa) ∧ W.cell? ⟨w.heap.size, 3, none⟩ = some (.string ho) ∧ W.cell? ⟨w.heap.size, 4, none⟩ = some (.bool hh) ∧ W.cell? ⟨w.heap.size, 5, none⟩ = some (.int .i64 po) ∧ W.cell? ⟨w.heap.size, 6, none⟩ = some (.bool op) ∧ W.cell? ⟨w.heap.size, 7, none⟩ = some (.string tx) ∧ W.cell? ⟨w.heap.size, 8, none⟩ = some (.slice A ps.length c) ∧ W.cell? ⟨w.heap.size, 9, none⟩ = some (.bool hq) ∧ W.cell? ⟨w.heap.size, 10, none⟩ = some (.bool hf) ∧ W.cell? ⟨w.heap.size, 11, none⟩ = some (.string qu) ∧ W.cell? ⟨w.heap.size, 12, none⟩ = some (.string fr) ∧ Hid (Tab W ∧ Below w.heap.size w W ∧ TextsAt W A ps) := ⟨_, rfl⟩
  have hk : ∀ W W', S W → Below W.heap.size W W' → S W' := by
    intro W W' h hb
    subst hS
    obtain ⟨c0, c1, c2, c3, c4, c5, c6, c7, c8, c9, c10, c11, c12, k⟩ := h
    obtain ⟨t, b, p⟩ := k.out
    exact ⟨cell_kept hb c0, cell_kept hb c1, cell_kept hb c2, cell_kept hb c3, cell_kept hb c4, cell_kept hb c5, cell_kept hb c6, cell_kept hb c7, cell_kept hb c8, cell_kept hb c9, cell_kept hb c10, cell_kept hb c11, cell_kept hb c12, Lib.hid ⟨t.below (Nat.le_refl _) hb, b.trans (hb.mono b.size), p.below (Nat.le_refl _) hb⟩⟩
  have hr : ∀ W, S W → Tab W ∧ Below w.heap.size w W ∧ TextsAt W A ps := by
    intro W h; subst hS; exact h.2.2.2.2.2.2.2.2.2.2.2.2.2.out
  have hS0 : S w1 := by subst hS; exact ⟨hc1.1, hc1.2.1, hc1.2.2.1, hc1.2.2.2.1, hc1.2.2.2.2.1, hc1.2.2.2.2.2.1, hc1.2.2.2.2.2.2.1, hc1.2.2.2.2.2.2.2.1, hc1.2.2.2.2.2.2.2.2.1, hc1.2.2.2.2.2.2.2.2.2.1, hc1.2.2.2.2.2.2.2.2.2.2.1, hc1.2.2.2.2.2.2.2.2.2.2.2.1, hc1.2.2.2.2.2.2.2.2.2.2.2.2, hS1⟩
  have c12 := Lib.hid (held_call hk fun W h => awake_any W (hr W h).1)
  have hfew := held_call hk fun W h => few_any sc us pa ho tx qu fr hh op hq hf po A ps c W (hr W h).2.2 zsc zus zpa zho ztx zqu zfr zs
  cases hf0 : decide (urlSum sc us pa ho tx qu fr ps ≤ 1000 ∧ ps.length ≤ 50)
  · rw [hf0] at hfew
    have c13 := Lib.hid hfew
    clear hfew hf0 hk hc1 hS1 hp ht hp1 ht1 hb1
    have HR := Lib.hid hr
    clear hr
    subst hw1 hS
    go_enter Tryd.func3, Tryd.ntmps3
    dsimp only at hS0 HR c12 c13
    go_wp2_with (first
      | (go_at_call 12; refine (c12.out _ (by assumption)).mono ?_; rintro e w2 ⟨rfl, hS2⟩; try dsimp only at hS2)
      | (go_at_call 13; refine (c13.out _ (by assumption)).mono ?_; rintro e w3 ⟨rfl, hS3⟩; try dsimp only at hS3)
      | fail)
    go_ret
    exact ⟨rfl, (HR.out _ hS2).2.1⟩
  · rw [hf0] at hfew
    have hq0 := of_decide_eq_true hf0
    have hlim : sc.size + us.size + pa.size + ho.size + tx.size + qu.size + fr.size + ps.length + sumSizes ps ≤ 1000000 := by unfold urlSum at hq0; omega
    have c13 := Lib.hid hfew
    have k14 := held_call hk fun W h => print_any sc us pa ho tx qu fr hh op hq hf po A ps c W (hr W h).1 (hr W h).2.2 hlim h0 h1
    have k15 := held_call hk fun W h => rprint_any true sc us pa ho tx qu fr hh op hq hf po A ps c W (hr W h).2.2 hlim h0 h1
    have k25 := held_call hk fun W h => rprint_any false sc us pa ho tx qu fr hh op hq hf po A ps c W (hr W h).2.2 hlim h0 h1
    have k16 := held_call hk fun W h => bare_any sc us pa ho tx qu fr hh op hq hf po A ps c W (hr W h).1 (hr W h).2.2 (by omega) h0 h1
    have k17 := held_call hk fun W h => path_any sc us pa ho tx qu fr hh hq hf op po A ps c W (hr W h).2.2 (by omega)
    have k18 := held_call hk fun W h => rpath_any sc us pa ho tx qu fr hh op hq hf po A ps c W (hr W h).2.2 (by omega)
    have e25 : printL sc us pa ho tx qu fr hh op hq (hf && false) po ps = bareL sc us pa ho tx qu hh op hq po ps := by simp [printL]
    rw [Bool.and_true] at k15
    rw [e25] at k25
    generalize bs (printL sc us pa ho tx qu fr hh op hq hf po ps) = X at k14 k15
    generalize bs (bareL sc us pa ho tx qu hh op hq po ps) = Y at k16 k25
    generalize bs (pathL op tx ps) = Z at k17 k18
    have c14 := Lib.hid k14
    have c15 := Lib.hid k15
    have c25 := Lib.hid k25
    have c16 := Lib.hid k16
    have c17 := Lib.hid k17
    have c18 := Lib.hid k18
    have HK := Lib.hid hk
    have HR := Lib.hid hr
    clear hfew hf0 hk hc1 hS1 hp ht hp1 ht1 hb1 hr k14 k15 k25 k16 k17 k18 e25
    subst hw1 hS
    go_enter Tryd.func3, Tryd.ntmps3
    dsimp only at hS0 HR HK c12 c13 c14 c15 c25 c16 c17 c18
    go_upto_region 3 with (first
      | (go_at_call 12; refine (c12.out _ (by assumption)).mono ?_; rintro e w2 ⟨rfl, hS2⟩; try dsimp only at hS2)
      | (go_at_call 13; refine (c13.out _ (by assumption)).mono ?_; rintro e w3 ⟨rfl, hS3⟩; try dsimp only at hS3)
      | fail)
    have hS4 := HK.out _ _ hS3 (below_drew _)
    try dsimp only at hS4
    go_region_held3 (fun W => W.cell? ⟨w.heap.size, 0, none⟩ = some (.string sc) ∧ W.cell? ⟨w.heap.size, 1, none⟩ = some (.string us) ∧ W.cell? ⟨w.heap.size, 2, none⟩ = some (.string pa) ∧ W.cell? ⟨w.heap.size, 3, none⟩ = some (.string ho) ∧ W.cell? ⟨w.heap.size, 4, none⟩ = some (.bool hh) ∧ W.cell? ⟨w.heap.size, 5, none⟩ = some (.int .i64 po) ∧ W.cell? ⟨w.heap.size, 6, none⟩ = some (.bool op) ∧ W.cell? ⟨w.heap.size, 7, none⟩ = some (.string tx) ∧ W.cell? ⟨w.heap.size, 8, none⟩ = some (.slice A ps.length c) ∧ W.cell? ⟨w.heap.size, 9, none⟩ = some (.bool hq) ∧ W.cell? ⟨w.heap.size, 10, none⟩ = some (.bool hf) ∧ W.cell? ⟨w.heap.size, 11, none⟩ = some (.string qu) ∧ W.cell? ⟨w.heap.size, 12, none⟩ = some (.string fr) ∧ Hid (Tab W ∧ Below w.heap.size w W ∧ TextsAt W A ps)) (first | (with_reducible assumption) | go_keep)
      (first
        | (go_at_call 14; refine (c14.out _ (by with_reducible assumption)).mono ?_; rintro e w9 ⟨rfl, hS9⟩)
        | (go_at_call 15; (with_reducible show Calls _ _ #[_, Value.bool true] _ _); refine (c15.out _ (by with_reducible assumption)).mono ?_; rintro e w9 ⟨rfl, hS9⟩)
        | (go_at_call 15; (with_reducible show Calls _ _ #[_, Value.bool false] _ _); refine (c25.out _ (by with_reducible assumption)).mono ?_; rintro e w9 ⟨rfl, hS9⟩)
        | (go_at_call 16; refine (c16.out _ (by with_reducible assumption)).mono ?_; rintro e w9 ⟨rfl, hS9⟩)
        | (go_at_call 17; refine (c17.out _ (by with_reducible assumption)).mono ?_; rintro e w9 ⟨rfl, hS9⟩)
        | (go_at_call 18; refine (c18.out _ (by with_reducible assumption)).mono ?_; rintro e w9 ⟨rfl, hS9⟩)
        | fail)
    all_goals
      go_wp2
      go_ret
      exact ⟨rfl, (HR.out _ (by with_reducible assumption)).2.1⟩
end Go.Proofs.YtlhpncpihbpkoaaDoor
