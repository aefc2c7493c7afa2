/- BaseOdd: the row and the card (a text with an odd byte). For every input: the law returns true and each argument reads behind the call as it read before. Conditions: none beyond the row's own (the listed tables lie as their initialisers lay them). -/
import Derived.Test.YtlhpncpihbpkoaaDoorRow0
import Derived.Test.YtlhpncpihbpkoaaDoorRow03
namespace Go.Proofs.YtlhpncpihbpkoaaDoor
open Go.ChangeShapes Go.WideShapes Go.ChangeAt Go.ChangeMaps Go.RowKit

set_option maxRecDepth 100000 in
theorem baseOdd_contract (H : Type) (enc : TypeId × Value → H) (W : World) (base : Nat) (args : Array Value) (ds gs : List (DataW H)) (before : List MemPlace)
    (hval : ∀ (j : Nat) t v, Tryd.f11.params[j]? = some t → args[j]? = some v → Value.okWide Tryd.prog W .any base t v)
    (hW : DataW.Whole enc Tryd.prog Tryd.f11.params.toList Rows.baseOddSpec.vars false W args.toList ds gs before) (hz : (DataW.weightsEach Tryd.prog (Tryd.f11.params.toList ++ (OpenSpec.ofChange Rows.baseOddSpec).bare.plain.varTypes Tryd.prog) (ds ++ gs)).all (· ≤ reachBytes) = true) (hL : laidMetH Tryd.prog Rows.baseOddRow.laid W) :
    Calls Tryd.prog 11 args W fun e W' => ∃ v, e = .returned v ∧ Rows.baseOddSpec.post enc Tryd.prog Tryd.f11 false true false false W args v W' := by
  have hW' := hW
  have tz0 : (Tryd.f11.params.toList ++ (OpenSpec.ofChange Rows.baseOddSpec).bare.plain.varTypes Tryd.prog)[0]? = some 35 := by kernel_rfl
  have tz1 : (Tryd.f11.params.toList ++ (OpenSpec.ofChange Rows.baseOddSpec).bare.plain.varTypes Tryd.prog)[1]? = some 5 := by kernel_rfl
  have tz2 : (Tryd.f11.params.toList ++ (OpenSpec.ofChange Rows.baseOddSpec).bare.plain.varTypes Tryd.prog)[2]? = some 5 := by kernel_rfl
  obtain ⟨p, q, hA0, hV, rfl, hfz, hnd⟩ := hW
  have hA : DataW.TrodAll enc Tryd.prog W 0 (fun _ => true) true Tryd.f11.params.toList args.toList ds p := hA0
  rw [Tryd.params11] at hA hval
  obtain ⟨v0, v1, v2, d0, d1, d2, p0, p1, p2, rfl, rfl, rfl, k0, k1, k2⟩ := trodAll_three hA
  obtain ⟨rfl, rfl⟩ := trodVars_none hV
  have y0 : ∀ n ∈ d0.weights Tryd.prog 35, n ≤ reachBytes := fun n hn => by simpa using List.all_eq_true.1 hz n (DataW.weights_mem_each tz0 rfl n hn)
  have y1 : ∀ n ∈ d1.weights Tryd.prog 5, n ≤ reachBytes := fun n hn => by simpa using List.all_eq_true.1 hz n (DataW.weights_mem_each tz1 rfl n hn)
  have y2 : ∀ n ∈ d2.weights Tryd.prog 5, n ≤ reachBytes := fun n hn => by simpa using List.all_eq_true.1 hz n (DataW.weights_mem_each tz2 rfl n hn)
  obtain ⟨A0, c0, l0, rfl, hb0, hc0, ho0⟩ := open_bytes (hval 0 35 v0 rfl rfl) k0
  obtain ⟨n1, rfl, rfl, rfl, wf1⟩ := open_int Tryd.underlying5 (hval 1 5 v1 rfl rfl) k1
  have wn1 : 0 ≤ n1 ∧ n1 ≤ 255 := by
    have m1 : IntKind.u8.min = 0 := by decide
    have m2 : IntKind.u8.max = 255 := by decide
    simp only [Lit.wf, Bool.and_eq_true, decide_eq_true_eq, m1, m2] at wf1
    exact wf1
  obtain ⟨n2, rfl, rfl, rfl, wf2⟩ := open_int Tryd.underlying5 (hval 2 5 v2 rfl rfl) k2
  have wn2 : 0 ≤ n2 ∧ n2 ≤ 255 := by
    have m1 : IntKind.u8.min = 0 := by decide
    have m2 : IntKind.u8.max = 255 := by decide
    simp only [Lit.wf, Bool.and_eq_true, decide_eq_true_eq, m1, m2] at wf2
    exact wf2
  refine (baseodd_any A0 c0 l0 n1 n2 W (tab03 hL) hb0 hc0 ho0 wn1 wn2).mono fun e W' ⟨he, bel⟩ => ?_
  subst he
  exact ⟨_, rfl, _, _, _, [], _, [], hW', trodAll_mk1 (shut_bool Tryd.underlying4 _),
    trodAll_mk3 (stays (by kernel_rfl) (by kernel_rfl) k0 bel) (stays (by kernel_rfl) (by kernel_rfl) k1 bel) (stays (by kernel_rfl) (by kernel_rfl) k2 bel), rfl, bel.frame _, fun h => by cases h⟩

set_option maxRecDepth 100000 in
theorem baseOdd_reads (os : Os) {H : Type} (enc : TypeId × Value → H) : ∃ places, DataW.whole enc Tryd.prog ((World.laidAll Tryd.prog os laid03).forCall (fun _ _ => 0) ⟨#[], #[.slice none 0 0, .int .u8 0, .int .u8 0], []⟩).memory Tryd.f11.params.toList Rows.baseOddSpec.vars false (#[.slice none 0 0, .int .u8 0, .int .u8 0] : Array Value).toList 8 = some ([.nil, .lit (.int .u8 0), .lit (.int .u8 0)], [], places) :=
  ⟨[], by kernel_rfl⟩

set_option maxRecDepth 100000 in
theorem baseOdd_lifted (os : Os) (started : os.Started) (H : Type) (enc : TypeId × Value → H) (F : Stop.Interp) :
    ReturnsInHanded {} Tryd.checked os 11 .any ((OpenSpec.ofChange Rows.baseOddSpec).preRow enc Tryd.prog Tryd.f11 Rows.baseOddRow.domain false Rows.baseOddRow.laid) (((OpenSpec.ofChange Rows.baseOddSpec).at F).post enc Tryd.prog Tryd.f11 false true false false) := by
  obtain ⟨places, hx⟩ := baseOdd_reads os enc
  refine returnsInHanded_of_row (C := Tryd.checked) (s := OpenSpec.ofChange Rows.baseOddSpec) own started (by kernel_rfl) Tryd.func11
    (witness_row_at (enc := enc) (C := Tryd.checked) false (World.laidAll Tryd.prog os laid03) #[.slice none 0 0, .int .u8 0, .int .u8 0] (World.laidAll_os _ _ _) (by kernel_rfl) (by kernel_rfl) (by kernel_rfl)
      (OpenSpec.preRow_of_cond 8 hx (by kernel_rfl) (fun k hk => by cases hk) (by kernel_rfl) (met03 os _))) ?_
  intro W base args ds gs before hval hW _ _ hz hL _ _
  exact baseOdd_contract H enc W base args ds gs before hval hW hz hL

theorem baseOdd_said : Rows.BaseOddSaid :=
  OpenClaim.holds_of_cond 11 Tryd.f11 rfl rfl rfl rfl rfl rfl rfl ⟨rfl, rfl, rfl, rfl, rfl⟩ rfl rfl rfl rfl rfl (by kernel_rfl) Tryd.func11 (by kernel_rfl)
    (of_decide_eq_true (by kernel_rfl)) (by unfold Func.isWrapper; first | (rw [if_pos (by decide +kernel)]; kernel_rfl) | (rw [if_neg (by decide +kernel)]; exact ⟨rfl, rfl⟩))
    (fun os started H enc _ F => by rw [OpenClaim.pre_eq_preRow]; exact baseOdd_lifted os started H enc F)

theorem baseOdd_plain (f : FuncId) (fn : Func) (hf : Tryd.pinned.checked.prog.funcNamed "carryall/carryalllaw03.BaseOdd" = some f) (hfn : Tryd.pinned.checked.prog.funcs[f]? = some fn) :
    false = Tryd.pinned.checked.prog.looks [] ∧ ∀ (j : Nat) t, fn.params[j]? = some t → Tryd.pinned.checked.prog.wantsStandIn t = false := by
  obtain rfl : f = 11 := Option.some.inj ((show Tryd.prog.funcNamed "carryall/carryalllaw03.BaseOdd" = some 11 by kernel_rfl).symm.trans hf) |>.symm
  obtain rfl : fn = Tryd.f11 := (Option.some.inj (Tryd.func11.symm.trans hfn)).symm
  refine ⟨by kernel_rfl, fun j t ht => ?_⟩
  rw [Tryd.params11] at ht
  have hm : t ∈ [35, 5, 5] := by simpa using Array.mem_of_getElem? ht
  exact want (by kernel_rfl) hm

/-- THE CARD. -/
theorem baseOdd_card : Rows.BaseOddCardSaid :=
  Claim7.holds_tied_plain_at .later [] _ _ _ _ baseOdd_said (fun _ h => by cases h) (by kernel_rfl) (fun _ h => by cases h) baseOdd_row_tie rfl ⟨rfl, rfl⟩ (by kernel_rfl) rfl baseOdd_plain (by kernel_rfl)
end Go.Proofs.YtlhpncpihbpkoaaDoor
