/- law03's awake, walked: it answers true. Condition: Go's tables of UTF-8 lie as their initialisers lay them. -/
import Derived.Test.YtlhpncpihbpkoaaDoorExt3
import Derived.Lib.SlBytesConst
namespace Go.Proofs.YtlhpncpihbpkoaaDoor
open Go.RowKit

theorem dec_yq : dec [32, 89, 32, 81, 32] = some [97] := by decide
theorem e3_a : e3 [97] = [89, 81, 61, 61] := by decide
theorem bytes_one (w : World) (x : UInt8) (fr : Nat × Nat) : BytesAt (w.alloc (.cells #[.int .u8 x.toNat] 5 fr)) (some ⟨w.heap.size, 0, none⟩) [x] 1 := by
  refine ⟨Nat.le_refl _, fun _ => ⟨_, 0, rfl, fun j y hj => ?_⟩⟩
  have hj0 : j = 0 := by
    have := (List.getElem?_eq_some_iff.1 hj).1
    simp at this
    omega
  subst hj0
  obtain rfl : x = y := by simpa using hj
  have hh : (w.alloc (.cells #[.int .u8 x.toNat] 5 fr)).heap[w.heap.size]? = some (.cells #[.int .u8 x.toNat] 5 fr) := by
    show (w.heap.push _)[w.heap.size]? = _
    simp
  unfold World.cell?
  rw [hh]
  rfl
set_option maxHeartbeats 1000000 in
set_option maxRecDepth 100000 in
theorem awake03_any (w : World) (hT : TabU w) : Calls Tryd.prog 24 #[] w fun e w' => e = .returned (.bool true) ∧ Below w.heap.size w w' := by
  have kc := fun (w : World) (C : Array Value) (n c : Nat) => Lib.run_convert_bytes_const (P := Tryd.prog) w 35 5 C n c Tryd.underlying35 Tryd.underlying5
  have hd := decode_any (bs [32, 89, 32, 81, 32]) w (by decide) hT
  rw [bs_list, dec_yq] at hd
  have HD := Lib.hid hd
  have he := fun W => encode_any (some ⟨W.heap.size, 0, none⟩) 1 [97] (W.alloc (.cells #[.int .u8 97] 5 (1, 2))) (bytes_one W 97 (1, 2)) (by decide)
  rw [e3_a] at he
  have HE := Lib.hid he
  have t1 : (bs [97]).toList = [97] := Lib.toList_data _
  have t2 : (bs [89, 81, 61, 61]).toList = [89, 81, 61, 61] := Lib.toList_data _
  clear hd he hT
  go_enter Tryd.func24, Tryd.ntmps24
  go_wp2_with (first
    | (go_at_call 26; refine HD.out.mono ?_; rintro e w1 ⟨v, rfl, ho, hb⟩; have ht := own_text ho)
    | (go_at_call 25; refine (HE.out _).mono ?_; rintro e w2 ⟨rfl, hb2⟩)
    | fail)
  go_ret
  exact ⟨rfl, hb.trans (((Below.refl _ _).alloc (Nat.le_refl _) _ |>.trans (hb2.mono (by simp))).mono hb.size)⟩
def X.Ext.law03_awake.f : Option Bool := some true
theorem X.Ext.law03_awake.calls (r : Bool) (w : World) (hT : Tabs w) (h : X.Ext.law03_awake.f = some r) : Calls Tryd.prog 24 #[] w fun e w' => e = .returned (.bool r) ∧ Below w.heap.size w w' := by
  obtain rfl := Option.some.inj h
  exact awake03_any w hT.utf
end Go.Proofs.YtlhpncpihbpkoaaDoor
