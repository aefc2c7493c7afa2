/- BaseWrites: the row and the card (bytes' letters, written and read again). For every input: the law returns true and each argument reads behind the call as it read before. Conditions: none beyond the row's own (the listed tables lie as their initialisers lay them). -/
import Derived.Test.YtlhpncpihbpkoaaDoorRow0
import Derived.Test.YtlhpncpihbpkoaaDoorRow03
namespace Go.Proofs.YtlhpncpihbpkoaaDoor
open Go.ChangeShapes Go.WideShapes Go.ChangeAt Go.ChangeMaps Go.RowKit

set_option maxRecDepth 100000 in
theorem baseWrites_contract (H : Type) (enc : TypeId × Value → H) (W : World) (base : Nat) (args : Array Value) (ds gs : List (DataW H)) (before : List MemPlace)
    (hval : ∀ (j : Nat) t v, Tryd.f7.params[j]? = some t → args[j]? = some v → Value.okWide Tryd.prog W .any base t v)
    (hW : DataW.Whole enc Tryd.prog Tryd.f7.params.toList Rows.baseWritesSpec.vars false W args.toList ds gs before) (hz : (DataW.weightsEach Tryd.prog (Tryd.f7.params.toList ++ (OpenSpec.ofChange Rows.baseWritesSpec).bare.plain.varTypes Tryd.prog) (ds ++ gs)).all (· ≤ reachBytes) = true) (hL : laidMetH Tryd.prog Rows.baseWritesRow.laid W) :
    Calls Tryd.prog 7 args W fun e W' => ∃ v, e = .returned v ∧ Rows.baseWritesSpec.post enc Tryd.prog Tryd.f7 false true false false W args v W' := by
  have hW' := hW
  have tz0 : (Tryd.f7.params.toList ++ (OpenSpec.ofChange Rows.baseWritesSpec).bare.plain.varTypes Tryd.prog)[0]? = some 35 := by kernel_rfl
  obtain ⟨p, q, hA0, hV, rfl, hfz, hnd⟩ := hW
  have hA : DataW.TrodAll enc Tryd.prog W 0 (fun _ => true) true Tryd.f7.params.toList args.toList ds p := hA0
  rw [Tryd.params7] at hA hval
  obtain ⟨v0, d0, rfl, rfl, k0⟩ := trodAll_one hA
  obtain ⟨rfl, rfl⟩ := trodVars_none hV
  have y0 : ∀ n ∈ d0.weights Tryd.prog 35, n ≤ reachBytes := fun n hn => by simpa using List.all_eq_true.1 hz n (DataW.weights_mem_each tz0 rfl n hn)
  obtain ⟨A0, c0, l0, rfl, hb0, hc0, ho0⟩ := open_bytes (hval 0 35 v0 rfl rfl) k0
  refine (basewrites_any A0 c0 l0 W (tab03 hL) hb0 hc0 ho0).mono fun e W' ⟨he, bel⟩ => ?_
  subst he
  exact ⟨_, rfl, _, _, _, [], _, [], hW', trodAll_mk1 (shut_bool Tryd.underlying4 _),
    trodAll_mk1 (stays (by kernel_rfl) (by kernel_rfl) k0 bel), rfl, bel.frame _, fun h => by cases h⟩

set_option maxRecDepth 100000 in
theorem baseWrites_reads (os : Os) {H : Type} (enc : TypeId × Value → H) : ∃ places, DataW.whole enc Tryd.prog ((World.laidAll Tryd.prog os laid03).forCall (fun _ _ => 0) ⟨#[], #[.slice none 0 0], []⟩).memory Tryd.f7.params.toList Rows.baseWritesSpec.vars false (#[.slice none 0 0] : Array Value).toList 8 = some ([.nil], [], places) :=
  ⟨[], by kernel_rfl⟩

set_option maxRecDepth 100000 in
theorem baseWrites_lifted (os : Os) (started : os.Started) (H : Type) (enc : TypeId × Value → H) (F : Stop.Interp) :
    ReturnsInHanded {} Tryd.checked os 7 .any ((OpenSpec.ofChange Rows.baseWritesSpec).preRow enc Tryd.prog Tryd.f7 Rows.baseWritesRow.domain false Rows.baseWritesRow.laid) (((OpenSpec.ofChange Rows.baseWritesSpec).at F).post enc Tryd.prog Tryd.f7 false true false false) := by
  obtain ⟨places, hx⟩ := baseWrites_reads os enc
  refine returnsInHanded_of_row (C := Tryd.checked) (s := OpenSpec.ofChange Rows.baseWritesSpec) own started (by kernel_rfl) Tryd.func7
    (witness_row_at (enc := enc) (C := Tryd.checked) false (World.laidAll Tryd.prog os laid03) #[.slice none 0 0] (World.laidAll_os _ _ _) (by kernel_rfl) (by kernel_rfl) (by kernel_rfl)
      (OpenSpec.preRow_of_cond 8 hx (by kernel_rfl) (fun k hk => by cases hk) (by kernel_rfl) (met03 os _))) ?_
  intro W base args ds gs before hval hW _ _ hz hL _ _
  exact baseWrites_contract H enc W base args ds gs before hval hW hz hL

theorem baseWrites_said : Rows.BaseWritesSaid :=
  OpenClaim.holds_of_cond 7 Tryd.f7 rfl rfl rfl rfl rfl rfl rfl ⟨rfl, rfl, rfl, rfl, rfl⟩ rfl rfl rfl rfl rfl (by kernel_rfl) Tryd.func7 (by kernel_rfl)
    (of_decide_eq_true (by kernel_rfl)) (by unfold Func.isWrapper; first | (rw [if_pos (by decide +kernel)]; kernel_rfl) | (rw [if_neg (by decide +kernel)]; exact ⟨rfl, rfl⟩))
    (fun os started H enc _ F => by rw [OpenClaim.pre_eq_preRow]; exact baseWrites_lifted os started H enc F)

theorem baseWrites_plain (f : FuncId) (fn : Func) (hf : Tryd.pinned.checked.prog.funcNamed "carryall/carryalllaw03.BaseWrites" = some f) (hfn : Tryd.pinned.checked.prog.funcs[f]? = some fn) :
    false = Tryd.pinned.checked.prog.looks [] ∧ ∀ (j : Nat) t, fn.params[j]? = some t → Tryd.pinned.checked.prog.wantsStandIn t = false := by
  obtain rfl : f = 7 := Option.some.inj ((show Tryd.prog.funcNamed "carryall/carryalllaw03.BaseWrites" = some 7 by kernel_rfl).symm.trans hf) |>.symm
  obtain rfl : fn = Tryd.f7 := (Option.some.inj (Tryd.func7.symm.trans hfn)).symm
  refine ⟨by kernel_rfl, fun j t ht => ?_⟩
  rw [Tryd.params7] at ht
  have hm : t ∈ [35] := by simpa using Array.mem_of_getElem? ht
  exact want (by kernel_rfl) hm

/-- THE CARD. -/
theorem baseWrites_card : Rows.BaseWritesCardSaid :=
  Claim7.holds_tied_plain_at .later [] _ _ _ _ baseWrites_said (fun _ h => by cases h) (by kernel_rfl) (fun _ h => by cases h) baseWrites_row_tie rfl ⟨rfl, rfl⟩ (by kernel_rfl) rfl baseWrites_plain (by kernel_rfl)
end Go.Proofs.YtlhpncpihbpkoaaDoor
