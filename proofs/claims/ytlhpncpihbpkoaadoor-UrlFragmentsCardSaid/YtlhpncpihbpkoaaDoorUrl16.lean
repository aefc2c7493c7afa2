/- UrlFragments, walked: it answers true of every input whose parts are no longer than a text may be. Conditions: the table of tens lies; the lists of texts lie as given. -/
import Derived.Test.YtlhpncpihbpkoaaDoorUrl10
import Derived.Test.YtlhpncpihbpkoaaDoorUrl9
import Derived.Test.YtlhpncpihbpkoaaDoorUrl12
import Derived.Test.YtlhpncpihbpkoaaDoorUrl17
import Derived.Test.YtlhpncpihbpkoaaDoorUrl8
import Derived.Test.YtlhpncpihbpkoaaDoorUrl6
import Derived.WalkKit
import Derived.Lib.Hide
import Derived.Deep.DeepCutAuto
import Derived.Deep.Light
import Derived.Deep.DeepMust
import Derived.Deep.RegionHeld3
namespace Go.Proofs.YtlhpncpihbpkoaaDoor
open Go.RowKit

set_option maxHeartbeats 8000000 in
set_option maxRecDepth 100000 in
theorem fragments_any (sc us pa ho tx qu fr : ByteArray) (hh op hq hf : Bool) (po : Int) (A : Option Addr) (ps : List ByteArray) (c : Nat) (g : ByteArray) (w : World) (ht : Tab w) (hp : TextsAt w A ps) (zsc : sc.size ≤ 140737488351232) (zus : us.size ≤ 140737488351232) (zpa : pa.size ≤ 140737488351232) (zho : ho.size ≤ 140737488351232) (ztx : tx.size ≤ 140737488351232) (zqu : qu.size ≤ 140737488351232) (zfr : fr.size ≤ 140737488351232) (zs : ∀ s ∈ ps, s.size ≤ 140737488351232) (h0 : -9223372036854775808 ≤ po) (h1 : po ≤ 9223372036854775807) (zg : g.size ≤ 140737488351232) :
    Calls Tryd.prog 6 #[.agg #[.string sc, .string us, .string pa, .string ho, .bool hh, .int .i64 po, .bool op, .string tx, .slice A ps.length c, .bool hq, .bool hf, .string qu, .string fr], .string g] w fun e w' => e = .returned (.bool true) ∧ Below w.heap.size w w' := by
  obtain ⟨w1, hw1⟩ : ∃ w1, w1 = w.alloc (.cells #[.string sc, .string us, .string pa, .string ho, .bool hh, .int .i64 po, .bool op, .string tx, .slice A ps.length c, .bool hq, .bool hf, .string qu, .string fr] 24) := ⟨_, rfl⟩
  have hp1 : TextsAt w1 A ps := by rw [hw1]; exact hp.alloc _
  have ht1 : Tab w1 := by rw [hw1]; exact ht.alloc _
  have hb1 : Below w.heap.size w w1 := by rw [hw1]; exact (Below.refl _ _).alloc (Nat.le_refl _) _
  have hc1 : w1.cell? ⟨w.heap.size, 0, none⟩ = some (.string sc) ∧ w1.cell? ⟨w.heap.size, 1, none⟩ = some (.string us) ∧ w1.cell? ⟨w.heap.size, 2, none⟩ = some (.string pa) ∧ w1.cell? ⟨w.heap.size, 3, none⟩ = some (.string ho) ∧ w1.cell? ⟨w.heap.size, 4, none⟩ = some (.bool hh) ∧ w1.cell? ⟨w.heap.size, 5, none⟩ = some (.int .i64 po) ∧ w1.cell? ⟨w.heap.size, 6, none⟩ = some (.bool op) ∧ w1.cell? ⟨w.heap.size, 7, none⟩ = some (.string tx) ∧ w1.cell? ⟨w.heap.size, 8, none⟩ = some (.slice A ps.length c) ∧ w1.cell? ⟨w.heap.size, 9, none⟩ = some (.bool hq) ∧ w1.cell? ⟨w.heap.size, 10, none⟩ = some (.bool hf) ∧ w1.cell? ⟨w.heap.size, 11, none⟩ = some (.string qu) ∧ w1.cell? ⟨w.heap.size, 12, none⟩ = some (.string fr) := by rw [hw1]; simp
  have hS1 : Hid (Tab w1 ∧ Below w.heap.size w w1 ∧ TextsAt w1 A ps) := Lib.hid ⟨ht1, hb1, hp1⟩
  obtain ⟨S, hS⟩ : ∃ S : World → Prop, S = fun W => W.cell? ⟨w.heap.size, 0, none⟩ = some (.string sc) ∧ W.cell? ⟨w.heap.size, 1, none⟩ = some (.string us) ∧ W.cell? ⟨w.heap.size, 2, none⟩ = some (.string pa) ∧ W.cell? ⟨w.heap.size, 3, none⟩ = some (.string ho) ∧ W.cell? ⟨w.heap.size, 4, none⟩ = some (.bool hh) ∧ W.cell? ⟨w.heap.size, 5, none⟩ = some (.int .i64 po) ∧ W.cell? ⟨w.heap.size, 6, none⟩ = some (.bool op) ∧ W.cell? ⟨w.heap.size, 7, none⟩ = some (.string tx) ∧ W.cell? ⟨w.heap.size, 8, none⟩ = some (.slice A ps.length c) ∧ W.cell? ⟨w.heap.size, 9, none⟩ = some (.bool hq) ∧ W.cell? ⟨w.heap.size, 10, none⟩ = some (.bool hf) ∧ W.cell? ⟨w.heap.size, 11, none⟩ = some (.string qu) ∧ W.cell? ⟨w.heap.size, 12, none⟩ = some (.string fr) ∧ Hid (Tab W ∧ Below w.heap.size w W ∧ TextsAt W A ps) := ⟨_, rfl⟩
  have hk : ∀ W W', S W → Below W.heap.size W W' → S W' := by
    intro W W' h hb
    subst hS
    obtain ⟨c0, c1, c2, c3, c4, c5, c6, c7, c8, c9, c10, c11, c12, k⟩ := h
    obtain ⟨t, b, p⟩ := k.out
    exact ⟨cell_kept hb c0, cell_kept hb c1, cell_kept hb c2, cell_kept hb c3, cell_kept hb c4, cell_kept hb c5, cell_kept hb c6, cell_kept hb c7, cell_kept hb c8, cell_kept hb c9, cell_kept hb c10, cell_kept hb c11, cell_kept hb c12, Lib.hid ⟨t.below (Nat.le_refl _) hb, b.trans (hb.mono b.size), p.below (Nat.le_refl _) hb⟩⟩
  have hr : ∀ W, S W → Tab W ∧ Below w.heap.size w W ∧ TextsAt W A ps := by
    intro W h; subst hS; exact h.2.2.2.2.2.2.2.2.2.2.2.2.2.out
  have hS0 : S w1 := by subst hS; exact ⟨hc1.1, hc1.2.1, hc1.2.2.1, hc1.2.2.2.1, hc1.2.2.2.2.1, hc1.2.2.2.2.2.1, hc1.2.2.2.2.2.2.1, hc1.2.2.2.2.2.2.2.1, hc1.2.2.2.2.2.2.2.2.1, hc1.2.2.2.2.2.2.2.2.2.1, hc1.2.2.2.2.2.2.2.2.2.2.1, hc1.2.2.2.2.2.2.2.2.2.2.2.1, hc1.2.2.2.2.2.2.2.2.2.2.2.2, hS1⟩
  have c12 := Lib.hid (held_call hk fun W h => awake_any W (hr W h).1)
  have k13 := held_call hk fun W h => few_any sc us pa ho tx qu fr hh op hq hf po A ps c W (hr W h).2.2 zsc zus zpa zho ztx zqu zfr zs
  cases hf0 : decide (urlSum sc us pa ho tx qu fr ps ≤ 1000 ∧ ps.length ≤ 50)
  · rw [hf0] at k13
    have c13 := Lib.hid k13
    clear k13 hf0 hk hc1 hS1 hp ht hp1 ht1 hb1
    have HR := Lib.hid hr
    clear hr
    subst hw1 hS
    go_enter Tryd.func6, Tryd.ntmps6
    dsimp only at hS0 HR c12 c13
    go_wp2_with (first
      | (go_at_call 12; refine (c12.out _ (by with_reducible assumption)).mono ?_; rintro e w2 ⟨rfl, hS2⟩)
      | (go_at_call 13; refine (c13.out _ (by with_reducible assumption)).mono ?_; rintro e w3 ⟨rfl, hS3⟩)
      | fail)
    all_goals
      go_ret
      exact ⟨rfl, (HR.out _ (by with_reducible assumption)).2.1⟩
  · rw [hf0] at k13
    have hq0 := of_decide_eq_true hf0
    have hlim : sc.size + us.size + pa.size + ho.size + tx.size + qu.size + fr.size + ps.length + sumSizes ps ≤ 990000 := by unfold urlSum at hq0; omega
    clear hf0
    by_cases hg : (g.size : Int) ≤ 300
    case neg =>
      have hg1 : (300 : Int) < (g.size : Int) := by omega
      have c13 := Lib.hid k13
      clear k13 hk hc1 hS1 hp ht hp1 ht1 hb1 hg
      have HR := Lib.hid hr
      clear hr
      subst hw1 hS
      go_enter Tryd.func6, Tryd.ntmps6
      dsimp only at hS0 HR c12 c13
      go_wp2_with (first
        | (go_at_call 12; refine (c12.out _ (by with_reducible assumption)).mono ?_; rintro e w2 ⟨rfl, hS2⟩)
        | (go_at_call 13; refine (c13.out _ (by with_reducible assumption)).mono ?_; rintro e w3 ⟨rfl, hS3⟩)
        | fail)
      all_goals
        go_ret
        exact ⟨rfl, (HR.out _ (by with_reducible assumption)).2.1⟩
    case pos =>
      have hg1 : ¬ (300 : Int) < (g.size : Int) := by omega
      have c13 := Lib.hid k13
      clear k13 hc1 hS1 hp ht hp1 ht1 hb1
      have HR := Lib.hid hr
      clear hr
      subst hw1 hS
      go_enter Tryd.func6, Tryd.ntmps6
      dsimp only at hS0 HR c12 c13 hk
      have HK := Lib.hid hk
      clear hk
      go_upto_region 7 with (first
        | (go_at_call 12; refine (c12.out _ (by with_reducible assumption)).mono ?_; rintro e w2 ⟨rfl, hS2⟩)
        | (go_at_call 13; refine (c13.out _ (by with_reducible assumption)).mono ?_; rintro e w3 ⟨rfl, hS3⟩; have hlt := World.block_lt_of_cell? _ _ hS3.1; dsimp only at hlt)
        | fail)
      have hb3 : Below w3.heap.size w3 ((w3.alloc (.cells #[.string sc, .string us, .string pa, .string ho, .bool hh, .int .i64 po, .bool op, .string tx, .slice A ps.length c, .bool hq, .bool true, .string qu, .string g] 24)).alloc (.cells #[.string sc, .string us, .string pa, .string ho, .bool hh, .int .i64 po, .bool op, .string tx, .slice A ps.length c, .bool hq, .bool false, .string qu, .string fr] 24)) := below_two _ _ _
      have hS4 := HK.out _ _ hS3 hb3
      have hR4 := HR.out _ hS4
      generalize hw4 : (w3.alloc (.cells #[.string sc, .string us, .string pa, .string ho, .bool hh, .int .i64 po, .bool op, .string tx, .slice A ps.length c, .bool hq, .bool true, .string qu, .string g] 24)).alloc (.cells #[.string sc, .string us, .string pa, .string ho, .bool hh, .int .i64 po, .bool op, .string tx, .slice A ps.length c, .bool hq, .bool false, .string qu, .string fr] 24) = w4 at hb3 hS4 hR4 ⊢
      have hv4 : w4.cell? ⟨w3.heap.size, 0, none⟩ = some (.string sc) ∧ w4.cell? ⟨w3.heap.size, 1, none⟩ = some (.string us) ∧ w4.cell? ⟨w3.heap.size, 2, none⟩ = some (.string pa) ∧ w4.cell? ⟨w3.heap.size, 3, none⟩ = some (.string ho) ∧ w4.cell? ⟨w3.heap.size, 4, none⟩ = some (.bool hh) ∧ w4.cell? ⟨w3.heap.size, 5, none⟩ = some (.int .i64 po) ∧ w4.cell? ⟨w3.heap.size, 6, none⟩ = some (.bool op) ∧ w4.cell? ⟨w3.heap.size, 7, none⟩ = some (.string tx) ∧ w4.cell? ⟨w3.heap.size, 8, none⟩ = some (.slice A ps.length c) ∧ w4.cell? ⟨w3.heap.size, 9, none⟩ = some (.bool hq) ∧ w4.cell? ⟨w3.heap.size, 10, none⟩ = some (.bool true) ∧ w4.cell? ⟨w3.heap.size, 11, none⟩ = some (.string qu) ∧ w4.cell? ⟨w3.heap.size, 12, none⟩ = some (.string g) ∧ w4.cell? ⟨w3.heap.size + 1, 0, none⟩ = some (.string sc) ∧ w4.cell? ⟨w3.heap.size + 1, 1, none⟩ = some (.string us) ∧ w4.cell? ⟨w3.heap.size + 1, 2, none⟩ = some (.string pa) ∧ w4.cell? ⟨w3.heap.size + 1, 3, none⟩ = some (.string ho) ∧ w4.cell? ⟨w3.heap.size + 1, 4, none⟩ = some (.bool hh) ∧ w4.cell? ⟨w3.heap.size + 1, 5, none⟩ = some (.int .i64 po) ∧ w4.cell? ⟨w3.heap.size + 1, 6, none⟩ = some (.bool op) ∧ w4.cell? ⟨w3.heap.size + 1, 7, none⟩ = some (.string tx) ∧ w4.cell? ⟨w3.heap.size + 1, 8, none⟩ = some (.slice A ps.length c) ∧ w4.cell? ⟨w3.heap.size + 1, 9, none⟩ = some (.bool hq) ∧ w4.cell? ⟨w3.heap.size + 1, 10, none⟩ = some (.bool false) ∧ w4.cell? ⟨w3.heap.size + 1, 11, none⟩ = some (.string qu) ∧ w4.cell? ⟨w3.heap.size + 1, 12, none⟩ = some (.string fr) := by rw [← hw4]; simp
      have hR5 := Lib.hid hR4
      clear hR4 hw4 c12 c13 hS0
      obtain ⟨S, hS⟩ : ∃ S : World → Prop, S = fun W => W.cell? ⟨w.heap.size, 0, none⟩ = some (.string sc) ∧ W.cell? ⟨w.heap.size, 1, none⟩ = some (.string us) ∧ W.cell? ⟨w.heap.size, 2, none⟩ = some (.string pa) ∧ W.cell? ⟨w.heap.size, 3, none⟩ = some (.string ho) ∧ W.cell? ⟨w.heap.size, 4, none⟩ = some (.bool hh) ∧ W.cell? ⟨w.heap.size, 5, none⟩ = some (.int .i64 po) ∧ W.cell? ⟨w.heap.size, 6, none⟩ = some (.bool op) ∧ W.cell? ⟨w.heap.size, 7, none⟩ = some (.string tx) ∧ W.cell? ⟨w.heap.size, 8, none⟩ = some (.slice A ps.length c) ∧ W.cell? ⟨w.heap.size, 9, none⟩ = some (.bool hq) ∧ W.cell? ⟨w.heap.size, 10, none⟩ = some (.bool hf) ∧ W.cell? ⟨w.heap.size, 11, none⟩ = some (.string qu) ∧ W.cell? ⟨w.heap.size, 12, none⟩ = some (.string fr) ∧ W.cell? ⟨w3.heap.size, 0, none⟩ = some (.string sc) ∧ W.cell? ⟨w3.heap.size, 1, none⟩ = some (.string us) ∧ W.cell? ⟨w3.heap.size, 2, none⟩ = some (.string pa) ∧ W.cell? ⟨w3.heap.size, 3, none⟩ = some (.string ho) ∧ W.cell? ⟨w3.heap.size, 4, none⟩ = some (.bool hh) ∧ W.cell? ⟨w3.heap.size, 5, none⟩ = some (.int .i64 po) ∧ W.cell? ⟨w3.heap.size, 6, none⟩ = some (.bool op) ∧ W.cell? ⟨w3.heap.size, 7, none⟩ = some (.string tx) ∧ W.cell? ⟨w3.heap.size, 8, none⟩ = some (.slice A ps.length c) ∧ W.cell? ⟨w3.heap.size, 9, none⟩ = some (.bool hq) ∧ W.cell? ⟨w3.heap.size, 10, none⟩ = some (.bool true) ∧ W.cell? ⟨w3.heap.size, 11, none⟩ = some (.string qu) ∧ W.cell? ⟨w3.heap.size, 12, none⟩ = some (.string g) ∧ W.cell? ⟨w3.heap.size + 1, 0, none⟩ = some (.string sc) ∧ W.cell? ⟨w3.heap.size + 1, 1, none⟩ = some (.string us) ∧ W.cell? ⟨w3.heap.size + 1, 2, none⟩ = some (.string pa) ∧ W.cell? ⟨w3.heap.size + 1, 3, none⟩ = some (.string ho) ∧ W.cell? ⟨w3.heap.size + 1, 4, none⟩ = some (.bool hh) ∧ W.cell? ⟨w3.heap.size + 1, 5, none⟩ = some (.int .i64 po) ∧ W.cell? ⟨w3.heap.size + 1, 6, none⟩ = some (.bool op) ∧ W.cell? ⟨w3.heap.size + 1, 7, none⟩ = some (.string tx) ∧ W.cell? ⟨w3.heap.size + 1, 8, none⟩ = some (.slice A ps.length c) ∧ W.cell? ⟨w3.heap.size + 1, 9, none⟩ = some (.bool hq) ∧ W.cell? ⟨w3.heap.size + 1, 10, none⟩ = some (.bool false) ∧ W.cell? ⟨w3.heap.size + 1, 11, none⟩ = some (.string qu) ∧ W.cell? ⟨w3.heap.size + 1, 12, none⟩ = some (.string fr) ∧ Hid (Tab W ∧ Below w.heap.size w W ∧ TextsAt W A ps) := ⟨_, rfl⟩
      have hk : ∀ W W', S W → Below W.heap.size W W' → S W' := by
        intro W W' h hb
        subst hS
        obtain ⟨c0, c1, c2, c3, c4, c5, c6, c7, c8, c9, c10, c11, c12, c13, c14, c15, c16, c17, c18, c19, c20, c21, c22, c23, c24, c25, c26, c27, c28, c29, c30, c31, c32, c33, c34, c35, c36, c37, c38, k⟩ := h
        obtain ⟨t, b, p⟩ := k.out
        exact ⟨cell_kept hb c0, cell_kept hb c1, cell_kept hb c2, cell_kept hb c3, cell_kept hb c4, cell_kept hb c5, cell_kept hb c6, cell_kept hb c7, cell_kept hb c8, cell_kept hb c9, cell_kept hb c10, cell_kept hb c11, cell_kept hb c12, cell_kept hb c13, cell_kept hb c14, cell_kept hb c15, cell_kept hb c16, cell_kept hb c17, cell_kept hb c18, cell_kept hb c19, cell_kept hb c20, cell_kept hb c21, cell_kept hb c22, cell_kept hb c23, cell_kept hb c24, cell_kept hb c25, cell_kept hb c26, cell_kept hb c27, cell_kept hb c28, cell_kept hb c29, cell_kept hb c30, cell_kept hb c31, cell_kept hb c32, cell_kept hb c33, cell_kept hb c34, cell_kept hb c35, cell_kept hb c36, cell_kept hb c37, cell_kept hb c38, Lib.hid ⟨t.below (Nat.le_refl _) hb, b.trans (hb.mono b.size), p.below (Nat.le_refl _) hb⟩⟩
      have hr : ∀ W, S W → Tab W ∧ Below w.heap.size w W ∧ TextsAt W A ps := by
        intro W h; subst hS; exact h.2.2.2.2.2.2.2.2.2.2.2.2.2.2.2.2.2.2.2.2.2.2.2.2.2.2.2.2.2.2.2.2.2.2.2.2.2.2.2.out
      have hS5 : S w4 := by subst hS; exact ⟨hS4.1, hS4.2.1, hS4.2.2.1, hS4.2.2.2.1, hS4.2.2.2.2.1, hS4.2.2.2.2.2.1, hS4.2.2.2.2.2.2.1, hS4.2.2.2.2.2.2.2.1, hS4.2.2.2.2.2.2.2.2.1, hS4.2.2.2.2.2.2.2.2.2.1, hS4.2.2.2.2.2.2.2.2.2.2.1, hS4.2.2.2.2.2.2.2.2.2.2.2.1, hS4.2.2.2.2.2.2.2.2.2.2.2.2.1, hv4.1, hv4.2.1, hv4.2.2.1, hv4.2.2.2.1, hv4.2.2.2.2.1, hv4.2.2.2.2.2.1, hv4.2.2.2.2.2.2.1, hv4.2.2.2.2.2.2.2.1, hv4.2.2.2.2.2.2.2.2.1, hv4.2.2.2.2.2.2.2.2.2.1, hv4.2.2.2.2.2.2.2.2.2.2.1, hv4.2.2.2.2.2.2.2.2.2.2.2.1, hv4.2.2.2.2.2.2.2.2.2.2.2.2.1, hv4.2.2.2.2.2.2.2.2.2.2.2.2.2.1, hv4.2.2.2.2.2.2.2.2.2.2.2.2.2.2.1, hv4.2.2.2.2.2.2.2.2.2.2.2.2.2.2.2.1, hv4.2.2.2.2.2.2.2.2.2.2.2.2.2.2.2.2.1, hv4.2.2.2.2.2.2.2.2.2.2.2.2.2.2.2.2.2.1, hv4.2.2.2.2.2.2.2.2.2.2.2.2.2.2.2.2.2.2.1, hv4.2.2.2.2.2.2.2.2.2.2.2.2.2.2.2.2.2.2.2.1, hv4.2.2.2.2.2.2.2.2.2.2.2.2.2.2.2.2.2.2.2.2.1, hv4.2.2.2.2.2.2.2.2.2.2.2.2.2.2.2.2.2.2.2.2.2.1, hv4.2.2.2.2.2.2.2.2.2.2.2.2.2.2.2.2.2.2.2.2.2.2.1, hv4.2.2.2.2.2.2.2.2.2.2.2.2.2.2.2.2.2.2.2.2.2.2.2.1, hv4.2.2.2.2.2.2.2.2.2.2.2.2.2.2.2.2.2.2.2.2.2.2.2.2.1, hv4.2.2.2.2.2.2.2.2.2.2.2.2.2.2.2.2.2.2.2.2.2.2.2.2.2, hR5⟩
      have hS6 := hk _ _ hS5 (below_drew _)
      have k1 := held_call hk fun W h => print_any sc us pa ho tx qu g hh op hq true po A ps c W (hr W h).1 (hr W h).2.2 (by omega) h0 h1
      have k2 := held_call hk fun W h => bare_any sc us pa ho tx qu fr hh op hq hf po A ps c W (hr W h).1 (hr W h).2.2 (by omega) h0 h1
      have k3 := held_call hk fun W h => bare_any sc us pa ho tx qu g hh op hq true po A ps c W (hr W h).1 (hr W h).2.2 (by omega) h0 h1
      have k4 := held_call hk fun W h => print_any sc us pa ho tx qu fr hh op hq false po A ps c W (hr W h).1 (hr W h).2.2 (by omega) h0 h1
      have k5 := held_call hk fun W h => same_any sc us pa ho tx qu fr hh op hq hf po A ps c sc us pa ho tx qu fr hh op hq false po A ps c W (hr W h).2.2 (hr W h).2.2
      have e1 : bs (printL sc us pa ho tx qu g hh op hq true po ps) = bs (bareL sc us pa ho tx qu hh op hq po ps) ++ ⟨#[35]⟩ ++ g := frag_print _ _ _ _ _ _ _ _ _ _ _ _
      have e4 : printL sc us pa ho tx qu fr hh op hq false po ps = bareL sc us pa ho tx qu hh op hq po ps := by simp [printL]
      have e5 : (whomB sc us pa ho sc us pa ho hh hh po po && pathB op op tx tx ps ps && queryB hq hq qu qu && queryB hf false fr fr) = !hf := frag_same _ _ _ _ _ _ _ _ _ _ _ _ _
      have hsz : (bs (bareL sc us pa ho tx qu hh op hq po ps)).size ≤ 6000000 := by rw [bs_size]; exact bareL_le sc us pa ho tx qu hh op hq po ps h0 h1 (by omega)
      rw [e1] at k1
      rw [e4] at k4
      rw [e5] at k5
      generalize bs (bareL sc us pa ho tx qu hh op hq po ps) = Y at k1 k2 k3 k4 hsz
      have a1 := add_run Y ⟨#[35]⟩ (by have : (⟨#[35]⟩ : ByteArray).size = 1 := rfl; omega)
      have a2 := add_run (Y ++ ⟨#[35]⟩) g (by have : (Y ++ ⟨#[35]⟩ : ByteArray).size = Y.size + 1 := by simp [ByteArray.size_append]; rfl
                                              omega)
      subst hS
      dsimp only at hr hS6 k1 k2 k3 k4 k5
      have c1 := Lib.hid k1
      have c2 := Lib.hid k2
      have c3 := Lib.hid k3
      have c4 := Lib.hid k4
      have c5 := Lib.hid k5
      have HR2 := Lib.hid hr
      clear hr hk k1 k2 k3 k4 k5 e1 e4 e5 hS5 hv4 hR5 hS4 hb3 hS3 HR HK hq0
      cases hf
      ·
        go_region_held3 (fun W => W.cell? ⟨w.heap.size, 0, none⟩ = some (.string sc) ∧ W.cell? ⟨w.heap.size, 1, none⟩ = some (.string us) ∧ W.cell? ⟨w.heap.size, 2, none⟩ = some (.string pa) ∧ W.cell? ⟨w.heap.size, 3, none⟩ = some (.string ho) ∧ W.cell? ⟨w.heap.size, 4, none⟩ = some (.bool hh) ∧ W.cell? ⟨w.heap.size, 5, none⟩ = some (.int .i64 po) ∧ W.cell? ⟨w.heap.size, 6, none⟩ = some (.bool op) ∧ W.cell? ⟨w.heap.size, 7, none⟩ = some (.string tx) ∧ W.cell? ⟨w.heap.size, 8, none⟩ = some (.slice A ps.length c) ∧ W.cell? ⟨w.heap.size, 9, none⟩ = some (.bool hq) ∧ W.cell? ⟨w.heap.size, 10, none⟩ = some (.bool false) ∧ W.cell? ⟨w.heap.size, 11, none⟩ = some (.string qu) ∧ W.cell? ⟨w.heap.size, 12, none⟩ = some (.string fr) ∧ W.cell? ⟨w3.heap.size, 0, none⟩ = some (.string sc) ∧ W.cell? ⟨w3.heap.size, 1, none⟩ = some (.string us) ∧ W.cell? ⟨w3.heap.size, 2, none⟩ = some (.string pa) ∧ W.cell? ⟨w3.heap.size, 3, none⟩ = some (.string ho) ∧ W.cell? ⟨w3.heap.size, 4, none⟩ = some (.bool hh) ∧ W.cell? ⟨w3.heap.size, 5, none⟩ = some (.int .i64 po) ∧ W.cell? ⟨w3.heap.size, 6, none⟩ = some (.bool op) ∧ W.cell? ⟨w3.heap.size, 7, none⟩ = some (.string tx) ∧ W.cell? ⟨w3.heap.size, 8, none⟩ = some (.slice A ps.length c) ∧ W.cell? ⟨w3.heap.size, 9, none⟩ = some (.bool hq) ∧ W.cell? ⟨w3.heap.size, 10, none⟩ = some (.bool true) ∧ W.cell? ⟨w3.heap.size, 11, none⟩ = some (.string qu) ∧ W.cell? ⟨w3.heap.size, 12, none⟩ = some (.string g) ∧ W.cell? ⟨w3.heap.size + 1, 0, none⟩ = some (.string sc) ∧ W.cell? ⟨w3.heap.size + 1, 1, none⟩ = some (.string us) ∧ W.cell? ⟨w3.heap.size + 1, 2, none⟩ = some (.string pa) ∧ W.cell? ⟨w3.heap.size + 1, 3, none⟩ = some (.string ho) ∧ W.cell? ⟨w3.heap.size + 1, 4, none⟩ = some (.bool hh) ∧ W.cell? ⟨w3.heap.size + 1, 5, none⟩ = some (.int .i64 po) ∧ W.cell? ⟨w3.heap.size + 1, 6, none⟩ = some (.bool op) ∧ W.cell? ⟨w3.heap.size + 1, 7, none⟩ = some (.string tx) ∧ W.cell? ⟨w3.heap.size + 1, 8, none⟩ = some (.slice A ps.length c) ∧ W.cell? ⟨w3.heap.size + 1, 9, none⟩ = some (.bool hq) ∧ W.cell? ⟨w3.heap.size + 1, 10, none⟩ = some (.bool false) ∧ W.cell? ⟨w3.heap.size + 1, 11, none⟩ = some (.string qu) ∧ W.cell? ⟨w3.heap.size + 1, 12, none⟩ = some (.string fr) ∧ Hid (Tab W ∧ Below w.heap.size w W ∧ TextsAt W A ps)) (first | (with_reducible assumption) | go_keep)
          (first
            | (go_at_call 14; (with_reducible show Calls _ _ #[.agg #[.string sc, .string us, .string pa, .string ho, .bool hh, .int .i64 po, .bool op, .string tx, .slice A ps.length c, .bool hq, .bool true, .string qu, .string g]] _ _); refine (c1.out _ (by with_reducible assumption)).mono ?_; rintro e w9 ⟨rfl, hS9⟩)
            | (go_at_call 14; (with_reducible show Calls _ _ #[.agg #[.string sc, .string us, .string pa, .string ho, .bool hh, .int .i64 po, .bool op, .string tx, .slice A ps.length c, .bool hq, .bool false, .string qu, .string fr]] _ _); refine (c4.out _ (by with_reducible assumption)).mono ?_; rintro e w9 ⟨rfl, hS9⟩)
            | (go_at_call 16; (with_reducible show Calls _ _ #[.agg #[.string sc, .string us, .string pa, .string ho, .bool hh, .int .i64 po, .bool op, .string tx, .slice A ps.length c, .bool hq, .bool true, .string qu, .string g]] _ _); refine (c3.out _ (by with_reducible assumption)).mono ?_; rintro e w9 ⟨rfl, hS9⟩)
            | (go_at_call 16; refine (c2.out _ (by with_reducible assumption)).mono ?_; rintro e w9 ⟨rfl, hS9⟩)
            | (go_at_call 22; refine (c5.out _ (by with_reducible assumption)).mono ?_; rintro e w9 ⟨rfl, hS9⟩)
            | fail)
        all_goals
          go_wp2
          go_ret
          exact ⟨rfl, (HR2.out _ (by with_reducible assumption)).2.1⟩
      ·
        go_region_held3 (fun W => W.cell? ⟨w.heap.size, 0, none⟩ = some (.string sc) ∧ W.cell? ⟨w.heap.size, 1, none⟩ = some (.string us) ∧ W.cell? ⟨w.heap.size, 2, none⟩ = some (.string pa) ∧ W.cell? ⟨w.heap.size, 3, none⟩ = some (.string ho) ∧ W.cell? ⟨w.heap.size, 4, none⟩ = some (.bool hh) ∧ W.cell? ⟨w.heap.size, 5, none⟩ = some (.int .i64 po) ∧ W.cell? ⟨w.heap.size, 6, none⟩ = some (.bool op) ∧ W.cell? ⟨w.heap.size, 7, none⟩ = some (.string tx) ∧ W.cell? ⟨w.heap.size, 8, none⟩ = some (.slice A ps.length c) ∧ W.cell? ⟨w.heap.size, 9, none⟩ = some (.bool hq) ∧ W.cell? ⟨w.heap.size, 10, none⟩ = some (.bool true) ∧ W.cell? ⟨w.heap.size, 11, none⟩ = some (.string qu) ∧ W.cell? ⟨w.heap.size, 12, none⟩ = some (.string fr) ∧ W.cell? ⟨w3.heap.size, 0, none⟩ = some (.string sc) ∧ W.cell? ⟨w3.heap.size, 1, none⟩ = some (.string us) ∧ W.cell? ⟨w3.heap.size, 2, none⟩ = some (.string pa) ∧ W.cell? ⟨w3.heap.size, 3, none⟩ = some (.string ho) ∧ W.cell? ⟨w3.heap.size, 4, none⟩ = some (.bool hh) ∧ W.cell? ⟨w3.heap.size, 5, none⟩ = some (.int .i64 po) ∧ W.cell? ⟨w3.heap.size, 6, none⟩ = some (.bool op) ∧ W.cell? ⟨w3.heap.size, 7, none⟩ = some (.string tx) ∧ W.cell? ⟨w3.heap.size, 8, none⟩ = some (.slice A ps.length c) ∧ W.cell? ⟨w3.heap.size, 9, none⟩ = some (.bool hq) ∧ W.cell? ⟨w3.heap.size, 10, none⟩ = some (.bool true) ∧ W.cell? ⟨w3.heap.size, 11, none⟩ = some (.string qu) ∧ W.cell? ⟨w3.heap.size, 12, none⟩ = some (.string g) ∧ W.cell? ⟨w3.heap.size + 1, 0, none⟩ = some (.string sc) ∧ W.cell? ⟨w3.heap.size + 1, 1, none⟩ = some (.string us) ∧ W.cell? ⟨w3.heap.size + 1, 2, none⟩ = some (.string pa) ∧ W.cell? ⟨w3.heap.size + 1, 3, none⟩ = some (.string ho) ∧ W.cell? ⟨w3.heap.size + 1, 4, none⟩ = some (.bool hh) ∧ W.cell? ⟨w3.heap.size + 1, 5, none⟩ = some (.int .i64 po) ∧ W.cell? ⟨w3.heap.size + 1, 6, none⟩ = some (.bool op) ∧ W.cell? ⟨w3.heap.size + 1, 7, none⟩ = some (.string tx) ∧ W.cell? ⟨w3.heap.size + 1, 8, none⟩ = some (.slice A ps.length c) ∧ W.cell? ⟨w3.heap.size + 1, 9, none⟩ = some (.bool hq) ∧ W.cell? ⟨w3.heap.size + 1, 10, none⟩ = some (.bool false) ∧ W.cell? ⟨w3.heap.size + 1, 11, none⟩ = some (.string qu) ∧ W.cell? ⟨w3.heap.size + 1, 12, none⟩ = some (.string fr) ∧ Hid (Tab W ∧ Below w.heap.size w W ∧ TextsAt W A ps)) (first | (with_reducible assumption) | go_keep)
          (first
            | (go_at_call 14; (with_reducible show Calls _ _ #[.agg #[.string sc, .string us, .string pa, .string ho, .bool hh, .int .i64 po, .bool op, .string tx, .slice A ps.length c, .bool hq, .bool true, .string qu, .string g]] _ _); refine (c1.out _ (by with_reducible assumption)).mono ?_; rintro e w9 ⟨rfl, hS9⟩)
            | (go_at_call 14; (with_reducible show Calls _ _ #[.agg #[.string sc, .string us, .string pa, .string ho, .bool hh, .int .i64 po, .bool op, .string tx, .slice A ps.length c, .bool hq, .bool false, .string qu, .string fr]] _ _); refine (c4.out _ (by with_reducible assumption)).mono ?_; rintro e w9 ⟨rfl, hS9⟩)
            | (go_at_call 16; (with_reducible show Calls _ _ #[.agg #[.string sc, .string us, .string pa, .string ho, .bool hh, .int .i64 po, .bool op, .string tx, .slice A ps.length c, .bool hq, .bool true, .string qu, .string g]] _ _); refine (c3.out _ (by with_reducible assumption)).mono ?_; rintro e w9 ⟨rfl, hS9⟩)
            | (go_at_call 16; refine (c2.out _ (by with_reducible assumption)).mono ?_; rintro e w9 ⟨rfl, hS9⟩)
            | (go_at_call 22; refine (c5.out _ (by with_reducible assumption)).mono ?_; rintro e w9 ⟨rfl, hS9⟩)
            | fail)
        all_goals
          go_wp2
          go_ret
          exact ⟨rfl, (HR2.out _ (by with_reducible assumption)).2.1⟩
end Go.Proofs.YtlhpncpihbpkoaaDoor
