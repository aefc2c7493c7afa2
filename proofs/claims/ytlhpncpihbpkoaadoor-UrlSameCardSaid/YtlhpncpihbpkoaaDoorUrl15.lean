/- UrlSame, walked: it answers true of every input whose parts are no longer than a text may be. Conditions: the table of tens lies; the lists of texts lie as given. -/
import Derived.Test.YtlhpncpihbpkoaaDoorUrl10
import Derived.Test.YtlhpncpihbpkoaaDoorUrl9
import Derived.Test.YtlhpncpihbpkoaaDoorUrl12
import Derived.Test.YtlhpncpihbpkoaaDoorUrl14
import Derived.Test.YtlhpncpihbpkoaaDoorUrl8
import Derived.Test.YtlhpncpihbpkoaaDoorUrl6
import Derived.WalkKit
import Derived.Lib.Hide
import Derived.Deep.DeepCutAuto
import Derived.Deep.Light
import Derived.Deep.DeepMust
import Derived.Deep.RegionHeld3
namespace Go.Proofs.YtlhpncpihbpkoaaDoor
open Go.RowKit

set_option maxHeartbeats 8000000 in
set_option maxRecDepth 100000 in
theorem samelaw_any (sc1 us1 pa1 ho1 tx1 qu1 fr1 : ByteArray) (hh1 op1 hq1 hf1 : Bool) (po1 : Int) (A1 : Option Addr) (ps1 : List ByteArray) (c1 : Nat) (sc2 us2 pa2 ho2 tx2 qu2 fr2 : ByteArray) (hh2 op2 hq2 hf2 : Bool) (po2 : Int) (A2 : Option Addr) (ps2 : List ByteArray) (c2 : Nat) (w : World) (ht : Tab w) (hp1 : TextsAt w A1 ps1) (hp2 : TextsAt w A2 ps2) (zsc1 : sc1.size ≤ 140737488351232) (zus1 : us1.size ≤ 140737488351232) (zpa1 : pa1.size ≤ 140737488351232) (zho1 : ho1.size ≤ 140737488351232) (ztx1 : tx1.size ≤ 140737488351232) (zqu1 : qu1.size ≤ 140737488351232) (zfr1 : fr1.size ≤ 140737488351232) (zs1 : ∀ s ∈ ps1, s.size ≤ 140737488351232) (h01 : -9223372036854775808 ≤ po1) (h11 : po1 ≤ 9223372036854775807) (zsc2 : sc2.size ≤ 140737488351232) (zus2 : us2.size ≤ 140737488351232) (zpa2 : pa2.size ≤ 140737488351232) (zho2 : ho2.size ≤ 140737488351232) (ztx2 : tx2.size ≤ 140737488351232) (zqu2 : qu2.size ≤ 140737488351232) (zfr2 : fr2.size ≤ 140737488351232) (zs2 : ∀ s ∈ ps2, s.size ≤ 140737488351232) (h02 : -9223372036854775808 ≤ po2) (h12 : po2 ≤ 9223372036854775807) :
    Calls Tryd.prog 5 #[.agg #[.string sc1, .string us1, .string pa1, .string ho1, .bool hh1, .int .i64 po1, .bool op1, .string tx1, .slice A1 ps1.length c1, .bool hq1, .bool hf1, .string qu1, .string fr1], .agg #[.string sc2, .string us2, .string pa2, .string ho2, .bool hh2, .int .i64 po2, .bool op2, .string tx2, .slice A2 ps2.length c2, .bool hq2, .bool hf2, .string qu2, .string fr2]] w fun e w' => e = .returned (.bool true) ∧ Below w.heap.size w w' := by
  obtain ⟨w1, hw1⟩ : ∃ w1, w1 = (w.alloc (.cells #[.string sc1, .string us1, .string pa1, .string ho1, .bool hh1, .int .i64 po1, .bool op1, .string tx1, .slice A1 ps1.length c1, .bool hq1, .bool hf1, .string qu1, .string fr1] 24)).alloc (.cells #[.string sc2, .string us2, .string pa2, .string ho2, .bool hh2, .int .i64 po2, .bool op2, .string tx2, .slice A2 ps2.length c2, .bool hq2, .bool hf2, .string qu2, .string fr2] 24) := ⟨_, rfl⟩
  have hb1 : Below w.heap.size w w1 := by rw [hw1]; exact below_two _ _ _
  have ht1 : Tab w1 := ht.below (Nat.le_refl _) hb1
  have hq1' : TextsAt w1 A1 ps1 := hp1.below (Nat.le_refl _) hb1
  have hq2' : TextsAt w1 A2 ps2 := hp2.below (Nat.le_refl _) hb1
  have hc1 : w1.cell? ⟨w.heap.size, 0, none⟩ = some (.string sc1) ∧ w1.cell? ⟨w.heap.size, 1, none⟩ = some (.string us1) ∧ w1.cell? ⟨w.heap.size, 2, none⟩ = some (.string pa1) ∧ w1.cell? ⟨w.heap.size, 3, none⟩ = some (.string ho1) ∧ w1.cell? ⟨w.heap.size, 4, none⟩ = some (.bool hh1) ∧ w1.cell? ⟨w.heap.size, 5, none⟩ = some (.int .i64 po1) ∧ w1.cell? ⟨w.heap.size, 6, none⟩ = some (.bool op1) ∧ w1.cell? ⟨w.heap.size, 7, none⟩ = some (.string tx1) ∧ w1.cell? ⟨w.heap.size, 8, none⟩ = some (.slice A1 ps1.length c1) ∧ w1.cell? ⟨w.heap.size, 9, none⟩ = some (.bool hq1) ∧ w1.cell? ⟨w.heap.size, 10, none⟩ = some (.bool hf1) ∧ w1.cell? ⟨w.heap.size, 11, none⟩ = some (.string qu1) ∧ w1.cell? ⟨w.heap.size, 12, none⟩ = some (.string fr1) ∧ w1.cell? ⟨w.heap.size + 1, 0, none⟩ = some (.string sc2) ∧ w1.cell? ⟨w.heap.size + 1, 1, none⟩ = some (.string us2) ∧ w1.cell? ⟨w.heap.size + 1, 2, none⟩ = some (.string pa2) ∧ w1.cell? ⟨w.heap.size + 1, 3, none⟩ = some (.string ho2) ∧ w1.cell? ⟨w.heap.size + 1, 4, none⟩ = some (.bool hh2) ∧ w1.cell? ⟨w.heap.size + 1, 5, none⟩ = some (.int .i64 po2) ∧ w1.cell? ⟨w.heap.size + 1, 6, none⟩ = some (.bool op2) ∧ w1.cell? ⟨w.heap.size + 1, 7, none⟩ = some (.string tx2) ∧ w1.cell? ⟨w.heap.size + 1, 8, none⟩ = some (.slice A2 ps2.length c2) ∧ w1.cell? ⟨w.heap.size + 1, 9, none⟩ = some (.bool hq2) ∧ w1.cell? ⟨w.heap.size + 1, 10, none⟩ = some (.bool hf2) ∧ w1.cell? ⟨w.heap.size + 1, 11, none⟩ = some (.string qu2) ∧ w1.cell? ⟨w.heap.size + 1, 12, none⟩ = some (.string fr2) := by rw [hw1]; simp
  have hS1 : Hid (Tab w1 ∧ Below w.heap.size w w1 ∧ TextsAt w1 A1 ps1 ∧ TextsAt w1 A2 ps2) := Lib.hid ⟨ht1, hb1, hq1', hq2'⟩
  obtain ⟨S, hS⟩ : ∃ S : World → Prop, S = fun W => W.cell? ⟨w.heap.size, 0, none⟩ = some (.string sc1) ∧ W.cell? ⟨w.heap.size, 1, none⟩ = some (.string us1) ∧ W.cell? ⟨w.heap.size, 2, none⟩ = some (.string pa1) ∧ W.cell? ⟨w.heap.size, 3, none⟩ = some (.string ho1) ∧ W.cell? ⟨w.heap.size, 4, none⟩ = some (.bool hh1) ∧ W.cell? ⟨w.heap.size, 5, none⟩ = some (.int .i64 po1) ∧ W.cell? ⟨w.heap.size, 6, none⟩ = some (.bool op1) ∧ W.cell? ⟨w.heap.size, 7, none⟩ = some (.string tx1) ∧ W.cell? ⟨w.heap.size, 8, none⟩ = some (.slice A1 ps1.length c1) ∧ W.cell? ⟨w.heap.size, 9, none⟩ = some (.bool hq1) ∧ W.cell? ⟨w.heap.size, 10, none⟩ = some (.bool hf1) ∧ W.cell? ⟨w.heap.size, 11, none⟩ = some (.string qu1) ∧ W.cell? ⟨w.heap.size, 12, none⟩ = some (.string fr1) ∧ W.cell? ⟨w.heap.size + 1, 0, none⟩ = some (.string sc2) ∧ W.cell? ⟨w.heap.size + 1, 1, none⟩ = some (.string us2) ∧ W.cell? ⟨w.heap.size + 1, 2, none⟩ = some (.string pa2) ∧ W.cell? ⟨w.heap.size + 1, 3, none⟩ = some (.string ho2) ∧ W.cell? ⟨w.heap.size + 1, 4, none⟩ = some (.bool hh2) ∧ W.cell? ⟨w.heap.size + 1, 5, none⟩ = some (.int .i64 po2) ∧ W.cell? ⟨w.heap.size + 1, 6, none⟩ = some (.bool op2) ∧ W.cell? ⟨w.heap.size + 1, 7, none⟩ = some (.string tx2) ∧ W.cell? ⟨w.heap.size + 1, 8, none⟩ = some (.slice A2 ps2.length c2) ∧ W.cell? ⟨w.heap.size + 1, 9, none⟩ = some (.bool hq2) ∧ W.cell? ⟨w.heap.size + 1, 10, none⟩ = some (.bool hf2) ∧ W.cell? ⟨w.heap.size + 1, 11, none⟩ = some (.string qu2) ∧ W.cell? ⟨w.heap.size + 1, 12, none⟩ = some (.string fr2) ∧ Hid (Tab W ∧ Below w.heap.size w W ∧ TextsAt W A1 ps1 ∧ TextsAt W A2 ps2) := ⟨_, rfl⟩
  have hk : ∀ W W', S W → Below W.heap.size W W' → S W' := by
    intro W W' h hb
    subst hS
    obtain ⟨c0, c1, c2, c3, c4, c5, c6, c7, c8, c9, c10, c11, c12, c13, c14, c15, c16, c17, c18, c19, c20, c21, c22, c23, c24, c25, k⟩ := h
    obtain ⟨t, b, p1, p2⟩ := k.out
    exact ⟨cell_kept hb c0, cell_kept hb c1, cell_kept hb c2, cell_kept hb c3, cell_kept hb c4, cell_kept hb c5, cell_kept hb c6, cell_kept hb c7, cell_kept hb c8, cell_kept hb c9, cell_kept hb c10, cell_kept hb c11, cell_kept hb c12, cell_kept hb c13, cell_kept hb c14, cell_kept hb c15, cell_kept hb c16, cell_kept hb c17, cell_kept hb c18, cell_kept hb c19, cell_kept hb c20, cell_kept hb c21, cell_kept hb c22, cell_kept hb c23, cell_kept hb c24, cell_kept hb c25, Lib.hid ⟨t.below (Nat.le_refl _) hb, b.trans (hb.mono b.size), p1.below (Nat.le_refl _) hb, p2.below (Nat.le_refl _) hb⟩⟩
  have hr : ∀ W, S W → Tab W ∧ Below w.heap.size w W ∧ TextsAt W A1 ps1 ∧ TextsAt W A2 ps2 := by
    intro W h; subst hS; exact h.2.2.2.2.2.2.2.2.2.2.2.2.2.2.2.2.2.2.2.2.2.2.2.2.2.2.out
  have hS0 : S w1 := by subst hS; exact ⟨hc1.1, hc1.2.1, hc1.2.2.1, hc1.2.2.2.1, hc1.2.2.2.2.1, hc1.2.2.2.2.2.1, hc1.2.2.2.2.2.2.1, hc1.2.2.2.2.2.2.2.1, hc1.2.2.2.2.2.2.2.2.1, hc1.2.2.2.2.2.2.2.2.2.1, hc1.2.2.2.2.2.2.2.2.2.2.1, hc1.2.2.2.2.2.2.2.2.2.2.2.1, hc1.2.2.2.2.2.2.2.2.2.2.2.2.1, hc1.2.2.2.2.2.2.2.2.2.2.2.2.2.1, hc1.2.2.2.2.2.2.2.2.2.2.2.2.2.2.1, hc1.2.2.2.2.2.2.2.2.2.2.2.2.2.2.2.1, hc1.2.2.2.2.2.2.2.2.2.2.2.2.2.2.2.2.1, hc1.2.2.2.2.2.2.2.2.2.2.2.2.2.2.2.2.2.1, hc1.2.2.2.2.2.2.2.2.2.2.2.2.2.2.2.2.2.2.1, hc1.2.2.2.2.2.2.2.2.2.2.2.2.2.2.2.2.2.2.2.1, hc1.2.2.2.2.2.2.2.2.2.2.2.2.2.2.2.2.2.2.2.2.1, hc1.2.2.2.2.2.2.2.2.2.2.2.2.2.2.2.2.2.2.2.2.2.1, hc1.2.2.2.2.2.2.2.2.2.2.2.2.2.2.2.2.2.2.2.2.2.2.1, hc1.2.2.2.2.2.2.2.2.2.2.2.2.2.2.2.2.2.2.2.2.2.2.2.1, hc1.2.2.2.2.2.2.2.2.2.2.2.2.2.2.2.2.2.2.2.2.2.2.2.2.1, hc1.2.2.2.2.2.2.2.2.2.2.2.2.2.2.2.2.2.2.2.2.2.2.2.2.2, hS1⟩
  have c12 := Lib.hid (held_call hk fun W h => awake_any W (hr W h).1)
  have k13 := held_call hk fun W h => few_any sc1 us1 pa1 ho1 tx1 qu1 fr1 hh1 op1 hq1 hf1 po1 A1 ps1 c1 W (hr W h).2.2.1 zsc1 zus1 zpa1 zho1 ztx1 zqu1 zfr1 zs1
  have k23 := held_call hk fun W h => few_any sc2 us2 pa2 ho2 tx2 qu2 fr2 hh2 op2 hq2 hf2 po2 A2 ps2 c2 W (hr W h).2.2.2 zsc2 zus2 zpa2 zho2 ztx2 zqu2 zfr2 zs2
  have kab := held_call hk fun W h => same_any sc1 us1 pa1 ho1 tx1 qu1 fr1 hh1 op1 hq1 hf1 po1 A1 ps1 c1 sc2 us2 pa2 ho2 tx2 qu2 fr2 hh2 op2 hq2 hf2 po2 A2 ps2 c2 W (hr W h).2.2.1 (hr W h).2.2.2
  have krab := held_call hk fun W h => rsameurl_any sc1 us1 pa1 ho1 tx1 qu1 fr1 hh1 op1 hq1 hf1 po1 A1 ps1 c1 sc2 us2 pa2 ho2 tx2 qu2 fr2 hh2 op2 hq2 hf2 po2 A2 ps2 c2 W (hr W h).2.2.1 (hr W h).2.2.2
  have kaa := held_call hk fun W h => same_any sc1 us1 pa1 ho1 tx1 qu1 fr1 hh1 op1 hq1 hf1 po1 A1 ps1 c1 sc1 us1 pa1 ho1 tx1 qu1 fr1 hh1 op1 hq1 hf1 po1 A1 ps1 c1 W (hr W h).2.2.1 (hr W h).2.2.1
  have kba := held_call hk fun W h => same_any sc2 us2 pa2 ho2 tx2 qu2 fr2 hh2 op2 hq2 hf2 po2 A2 ps2 c2 sc1 us1 pa1 ho1 tx1 qu1 fr1 hh1 op1 hq1 hf1 po1 A1 ps1 c1 W (hr W h).2.2.2 (hr W h).2.2.1
  rw [same_refl sc1 us1 pa1 ho1 tx1 qu1 fr1 hh1 op1 hq1 hf1 po1 ps1] at kaa
  rw [same_sym sc1 us1 pa1 ho1 tx1 qu1 fr1 hh1 op1 hq1 hf1 po1 ps1 sc2 us2 pa2 ho2 tx2 qu2 fr2 hh2 op2 hq2 hf2 po2 ps2] at kba
  generalize (whomB sc1 us1 pa1 ho1 sc2 us2 pa2 ho2 hh1 hh2 po1 po2 && pathB op1 op2 tx1 tx2 ps1 ps2 && queryB hq1 hq2 qu1 qu2 && queryB hf1 hf2 fr1 fr2) = X at kab krab kba
  generalize decide (urlSum sc1 us1 pa1 ho1 tx1 qu1 fr1 ps1 ≤ 1000 ∧ ps1.length ≤ 50) = f1 at k13
  generalize decide (urlSum sc2 us2 pa2 ho2 tx2 qu2 fr2 ps2 ≤ 1000 ∧ ps2.length ≤ 50) = f2 at k23
  have HK := Lib.hid hk
  have HR := Lib.hid hr
  clear hk hr hc1 hS1 hp1 hp2 ht hq1' hq2' ht1 hb1
  subst hw1 hS
  dsimp only at hS0 HR HK c12 k13 k23 kab krab kaa kba
  cases f1
  · have c13 := Lib.hid k13; have c23 := Lib.hid k23
    clear k13 k23 kab krab kaa kba
    go_enter Tryd.func5, Tryd.ntmps5
    go_wp2_with
      (first
        | (go_at_call 12; refine (c12.out _ (by with_reducible assumption)).mono ?_; rintro e w2 ⟨rfl, hS2⟩)
        | (go_at_call 13; (with_reducible show Calls _ _ #[.agg #[.string sc1, .string us1, .string pa1, .string ho1, .bool hh1, .int .i64 po1, .bool op1, .string tx1, .slice A1 ps1.length c1, .bool hq1, .bool hf1, .string qu1, .string fr1]] _ _); refine (c13.out _ (by with_reducible assumption)).mono ?_; rintro e w3 ⟨rfl, hS3⟩)
        | (go_at_call 13; (with_reducible show Calls _ _ #[.agg #[.string sc2, .string us2, .string pa2, .string ho2, .bool hh2, .int .i64 po2, .bool op2, .string tx2, .slice A2 ps2.length c2, .bool hq2, .bool hf2, .string qu2, .string fr2]] _ _); refine (c23.out _ (by with_reducible assumption)).mono ?_; rintro e w4 ⟨rfl, hS4⟩)
        | fail)
    all_goals
      go_ret
      exact ⟨rfl, (HR.out _ (by with_reducible assumption)).2.1⟩
  cases f2
  · have c13 := Lib.hid k13; have c23 := Lib.hid k23
    clear k13 k23 kab krab kaa kba
    go_enter Tryd.func5, Tryd.ntmps5
    go_wp2_with
      (first
        | (go_at_call 12; refine (c12.out _ (by with_reducible assumption)).mono ?_; rintro e w2 ⟨rfl, hS2⟩)
        | (go_at_call 13; (with_reducible show Calls _ _ #[.agg #[.string sc1, .string us1, .string pa1, .string ho1, .bool hh1, .int .i64 po1, .bool op1, .string tx1, .slice A1 ps1.length c1, .bool hq1, .bool hf1, .string qu1, .string fr1]] _ _); refine (c13.out _ (by with_reducible assumption)).mono ?_; rintro e w3 ⟨rfl, hS3⟩)
        | (go_at_call 13; (with_reducible show Calls _ _ #[.agg #[.string sc2, .string us2, .string pa2, .string ho2, .bool hh2, .int .i64 po2, .bool op2, .string tx2, .slice A2 ps2.length c2, .bool hq2, .bool hf2, .string qu2, .string fr2]] _ _); refine (c23.out _ (by with_reducible assumption)).mono ?_; rintro e w4 ⟨rfl, hS4⟩)
        | fail)
    all_goals
      go_ret
      exact ⟨rfl, (HR.out _ (by with_reducible assumption)).2.1⟩
  cases X
  all_goals
    have c13 := Lib.hid k13; have c23 := Lib.hid k23; have cab := Lib.hid kab; have crab := Lib.hid krab; have caa := Lib.hid kaa; have cba := Lib.hid kba
    clear k13 k23 kab krab kaa kba
    go_enter Tryd.func5, Tryd.ntmps5
    go_upto_region 3 with
      (first
        | (go_at_call 12; refine (c12.out _ (by with_reducible assumption)).mono ?_; rintro e w2 ⟨rfl, hS2⟩)
        | (go_at_call 13; (with_reducible show Calls _ _ #[.agg #[.string sc1, .string us1, .string pa1, .string ho1, .bool hh1, .int .i64 po1, .bool op1, .string tx1, .slice A1 ps1.length c1, .bool hq1, .bool hf1, .string qu1, .string fr1]] _ _); refine (c13.out _ (by with_reducible assumption)).mono ?_; rintro e w3 ⟨rfl, hS3⟩)
        | (go_at_call 13; (with_reducible show Calls _ _ #[.agg #[.string sc2, .string us2, .string pa2, .string ho2, .bool hh2, .int .i64 po2, .bool op2, .string tx2, .slice A2 ps2.length c2, .bool hq2, .bool hf2, .string qu2, .string fr2]] _ _); refine (c23.out _ (by with_reducible assumption)).mono ?_; rintro e w4 ⟨rfl, hS4⟩)
        | fail)
    have hS5 := HK.out _ _ hS4 (below_drew _)
    try dsimp only at hS5
    go_region_held3 (fun W => W.cell? ⟨w.heap.size, 0, none⟩ = some (.string sc1) ∧ W.cell? ⟨w.heap.size, 1, none⟩ = some (.string us1) ∧ W.cell? ⟨w.heap.size, 2, none⟩ = some (.string pa1) ∧ W.cell? ⟨w.heap.size, 3, none⟩ = some (.string ho1) ∧ W.cell? ⟨w.heap.size, 4, none⟩ = some (.bool hh1) ∧ W.cell? ⟨w.heap.size, 5, none⟩ = some (.int .i64 po1) ∧ W.cell? ⟨w.heap.size, 6, none⟩ = some (.bool op1) ∧ W.cell? ⟨w.heap.size, 7, none⟩ = some (.string tx1) ∧ W.cell? ⟨w.heap.size, 8, none⟩ = some (.slice A1 ps1.length c1) ∧ W.cell? ⟨w.heap.size, 9, none⟩ = some (.bool hq1) ∧ W.cell? ⟨w.heap.size, 10, none⟩ = some (.bool hf1) ∧ W.cell? ⟨w.heap.size, 11, none⟩ = some (.string qu1) ∧ W.cell? ⟨w.heap.size, 12, none⟩ = some (.string fr1) ∧ W.cell? ⟨w.heap.size + 1, 0, none⟩ = some (.string sc2) ∧ W.cell? ⟨w.heap.size + 1, 1, none⟩ = some (.string us2) ∧ W.cell? ⟨w.heap.size + 1, 2, none⟩ = some (.string pa2) ∧ W.cell? ⟨w.heap.size + 1, 3, none⟩ = some (.string ho2) ∧ W.cell? ⟨w.heap.size + 1, 4, none⟩ = some (.bool hh2) ∧ W.cell? ⟨w.heap.size + 1, 5, none⟩ = some (.int .i64 po2) ∧ W.cell? ⟨w.heap.size + 1, 6, none⟩ = some (.bool op2) ∧ W.cell? ⟨w.heap.size + 1, 7, none⟩ = some (.string tx2) ∧ W.cell? ⟨w.heap.size + 1, 8, none⟩ = some (.slice A2 ps2.length c2) ∧ W.cell? ⟨w.heap.size + 1, 9, none⟩ = some (.bool hq2) ∧ W.cell? ⟨w.heap.size + 1, 10, none⟩ = some (.bool hf2) ∧ W.cell? ⟨w.heap.size + 1, 11, none⟩ = some (.string qu2) ∧ W.cell? ⟨w.heap.size + 1, 12, none⟩ = some (.string fr2) ∧ Hid (Tab W ∧ Below w.heap.size w W ∧ TextsAt W A1 ps1 ∧ TextsAt W A2 ps2)) (first | (with_reducible assumption) | go_keep)
      (first
        | (go_at_call 22; (with_reducible show Calls _ _ #[.agg #[.string sc1, .string us1, .string pa1, .string ho1, .bool hh1, .int .i64 po1, .bool op1, .string tx1, .slice A1 ps1.length c1, .bool hq1, .bool hf1, .string qu1, .string fr1], .agg #[.string sc2, .string us2, .string pa2, .string ho2, .bool hh2, .int .i64 po2, .bool op2, .string tx2, .slice A2 ps2.length c2, .bool hq2, .bool hf2, .string qu2, .string fr2]] _ _); refine (cab.out _ (by with_reducible assumption)).mono ?_; rintro e w9 ⟨rfl, hS9⟩)
        | (go_at_call 22; (with_reducible show Calls _ _ #[.agg #[.string sc1, .string us1, .string pa1, .string ho1, .bool hh1, .int .i64 po1, .bool op1, .string tx1, .slice A1 ps1.length c1, .bool hq1, .bool hf1, .string qu1, .string fr1], .agg #[.string sc1, .string us1, .string pa1, .string ho1, .bool hh1, .int .i64 po1, .bool op1, .string tx1, .slice A1 ps1.length c1, .bool hq1, .bool hf1, .string qu1, .string fr1]] _ _); refine (caa.out _ (by with_reducible assumption)).mono ?_; rintro e w9 ⟨rfl, hS9⟩)
        | (go_at_call 22; (with_reducible show Calls _ _ #[.agg #[.string sc2, .string us2, .string pa2, .string ho2, .bool hh2, .int .i64 po2, .bool op2, .string tx2, .slice A2 ps2.length c2, .bool hq2, .bool hf2, .string qu2, .string fr2], .agg #[.string sc1, .string us1, .string pa1, .string ho1, .bool hh1, .int .i64 po1, .bool op1, .string tx1, .slice A1 ps1.length c1, .bool hq1, .bool hf1, .string qu1, .string fr1]] _ _); refine (cba.out _ (by with_reducible assumption)).mono ?_; rintro e w9 ⟨rfl, hS9⟩)
        | (go_at_call 23; (with_reducible show Calls _ _ #[.agg #[.string sc1, .string us1, .string pa1, .string ho1, .bool hh1, .int .i64 po1, .bool op1, .string tx1, .slice A1 ps1.length c1, .bool hq1, .bool hf1, .string qu1, .string fr1], .agg #[.string sc2, .string us2, .string pa2, .string ho2, .bool hh2, .int .i64 po2, .bool op2, .string tx2, .slice A2 ps2.length c2, .bool hq2, .bool hf2, .string qu2, .string fr2]] _ _); refine (crab.out _ (by with_reducible assumption)).mono ?_; rintro e w9 ⟨rfl, hS9⟩)
        | fail)
    all_goals
      go_wp2
      go_ret
      exact ⟨rfl, (HR.out _ (by with_reducible assumption)).2.1⟩
end Go.Proofs.YtlhpncpihbpkoaaDoor
