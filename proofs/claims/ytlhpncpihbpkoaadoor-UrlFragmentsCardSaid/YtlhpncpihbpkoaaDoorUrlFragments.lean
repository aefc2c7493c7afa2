/- UrlFragments: the row and the card (what is written of a URL with and without its fragment). For every input: the law returns true and each argument reads behind the call as it read before. Conditions: none beyond the row's own (the listed tables lie as their initialisers lay them). -/
import Derived.Test.YtlhpncpihbpkoaaDoorRow0
import Derived.Test.YtlhpncpihbpkoaaDoorRow1
import Derived.Test.YtlhpncpihbpkoaaDoorUrl16
namespace Go.Proofs.YtlhpncpihbpkoaaDoor
open Go.ChangeShapes Go.WideShapes Go.ChangeAt Go.ChangeMaps Go.RowKit

set_option maxRecDepth 100000 in
theorem urlFragments_contract (H : Type) (enc : TypeId × Value → H) (W : World) (base : Nat) (args : Array Value) (ds gs : List (DataW H)) (before : List MemPlace)
    (hval : ∀ (j : Nat) t v, Tryd.f6.params[j]? = some t → args[j]? = some v → Value.okWide Tryd.prog W .any base t v)
    (hW : DataW.Whole enc Tryd.prog Tryd.f6.params.toList Rows.urlFragmentsSpec.vars false W args.toList ds gs before) (hz : (DataW.weightsEach Tryd.prog (Tryd.f6.params.toList ++ (OpenSpec.ofChange Rows.urlFragmentsSpec).bare.plain.varTypes Tryd.prog) (ds ++ gs)).all (· ≤ reachBytes) = true) (hL : laidMetH Tryd.prog Rows.urlFragmentsRow.laid W) :
    Calls Tryd.prog 6 args W fun e W' => ∃ v, e = .returned v ∧ Rows.urlFragmentsSpec.post enc Tryd.prog Tryd.f6 false true false false W args v W' := by
  have hW' := hW
  have tz0 : (Tryd.f6.params.toList ++ (OpenSpec.ofChange Rows.urlFragmentsSpec).bare.plain.varTypes Tryd.prog)[0]? = some 24 := by kernel_rfl
  have tz1 : (Tryd.f6.params.toList ++ (OpenSpec.ofChange Rows.urlFragmentsSpec).bare.plain.varTypes Tryd.prog)[1]? = some 9 := by kernel_rfl
  obtain ⟨p, q, hA0, hV, rfl, hfz, hnd⟩ := hW
  have hA : DataW.TrodAll enc Tryd.prog W 0 (fun _ => true) true Tryd.f6.params.toList args.toList ds p := hA0
  rw [Tryd.params6] at hA hval
  obtain ⟨v0, v1, d0, d1, p0, p1, rfl, rfl, rfl, k0, k1⟩ := trodAll_two hA
  obtain ⟨rfl, rfl⟩ := trodVars_none hV
  have y0 : ∀ n ∈ d0.weights Tryd.prog 24, n ≤ reachBytes := fun n hn => by simpa using List.all_eq_true.1 hz n (DataW.weights_mem_each tz0 rfl n hn)
  have y1 : ∀ n ∈ d1.weights Tryd.prog 9, n ≤ reachBytes := fun n hn => by simpa using List.all_eq_true.1 hz n (DataW.weights_mem_each tz1 rfl n hn)
  obtain ⟨sc0, us0, pa0, ho0, tx0, qu0, fr0, hh0, op0, hq0, hf0, po0, A0, ps0, c0, rfl, hp0, zsc0, zus0, zpa0, zho0, ztx0, zqu0, zfr0, zs0, h00, h10⟩ := open_url (hval 0 24 v0 rfl rfl) k0 y0
  obtain ⟨s1, rfl, rfl, rfl, hs1⟩ := open_string Tryd.underlying9 (hval 1 9 v1 rfl rfl) k1
  have zn1 : s1.size ≤ 140737488351232 := by
    have a := y1 s1.data.toList.length (by simp [DataW.weights])
    have e : s1.data.toList.length = s1.size := Array.length_toList
    rw [e] at a
    exact a
  refine (fragments_any sc0 us0 pa0 ho0 tx0 qu0 fr0 hh0 op0 hq0 hf0 po0 A0 ps0 c0 s1 W (tab11 hL) hp0 zsc0 zus0 zpa0 zho0 ztx0 zqu0 zfr0 zs0 h00 h10 zn1).mono fun e W' ⟨he, bel⟩ => ?_
  subst he
  exact ⟨_, rfl, _, _, _, [], _, [], hW', trodAll_mk1 (shut_bool Tryd.underlying4 _),
    trodAll_mk2 (stays (by kernel_rfl) (by kernel_rfl) k0 bel) (stays (by kernel_rfl) (by kernel_rfl) k1 bel), rfl, bel.frame _, fun h => by cases h⟩

set_option maxRecDepth 100000 in
theorem urlFragments_reads (os : Os) {H : Type} (enc : TypeId × Value → H) : ∃ places, DataW.whole enc Tryd.prog ((World.laidAll Tryd.prog os laid11).forCall (fun _ _ => 0) ⟨#[], #[.agg #[.string ⟨#[]⟩, .string ⟨#[]⟩, .string ⟨#[]⟩, .string ⟨#[]⟩, .bool false, .int .i64 0, .bool false, .string ⟨#[]⟩, .slice none 0 0, .bool false, .bool false, .string ⟨#[]⟩, .string ⟨#[]⟩], .string ⟨#[]⟩], []⟩).memory Tryd.f6.params.toList Rows.urlFragmentsSpec.vars false (#[.agg #[.string ⟨#[]⟩, .string ⟨#[]⟩, .string ⟨#[]⟩, .string ⟨#[]⟩, .bool false, .int .i64 0, .bool false, .string ⟨#[]⟩, .slice none 0 0, .bool false, .bool false, .string ⟨#[]⟩, .string ⟨#[]⟩], .string ⟨#[]⟩] : Array Value).toList 8 = some ([.agg [.lit (.string []), .lit (.string []), .lit (.string []), .lit (.string []), .lit (.bool false), .lit (.int .i64 0), .lit (.bool false), .lit (.string []), .nil, .lit (.bool false), .lit (.bool false), .lit (.string []), .lit (.string [])], .lit (.string [])], [], places) :=
  ⟨[], by kernel_rfl⟩

set_option maxRecDepth 100000 in
theorem urlFragments_lifted (os : Os) (started : os.Started) (H : Type) (enc : TypeId × Value → H) (F : Stop.Interp) :
    ReturnsInHanded {} Tryd.checked os 6 .any ((OpenSpec.ofChange Rows.urlFragmentsSpec).preRow enc Tryd.prog Tryd.f6 Rows.urlFragmentsRow.domain false Rows.urlFragmentsRow.laid) (((OpenSpec.ofChange Rows.urlFragmentsSpec).at F).post enc Tryd.prog Tryd.f6 false true false false) := by
  obtain ⟨places, hx⟩ := urlFragments_reads os enc
  refine returnsInHanded_of_row (C := Tryd.checked) (s := OpenSpec.ofChange Rows.urlFragmentsSpec) own started (by kernel_rfl) Tryd.func6
    (witness_row_at (enc := enc) (C := Tryd.checked) false (World.laidAll Tryd.prog os laid11) #[.agg #[.string ⟨#[]⟩, .string ⟨#[]⟩, .string ⟨#[]⟩, .string ⟨#[]⟩, .bool false, .int .i64 0, .bool false, .string ⟨#[]⟩, .slice none 0 0, .bool false, .bool false, .string ⟨#[]⟩, .string ⟨#[]⟩], .string ⟨#[]⟩] (World.laidAll_os _ _ _) (by kernel_rfl) (by kernel_rfl) (by kernel_rfl)
      (OpenSpec.preRow_of_cond 8 hx (by kernel_rfl) (fun k hk => by cases hk) (by kernel_rfl) (met11 os _))) ?_
  intro W base args ds gs before hval hW _ _ hz hL _ _
  exact urlFragments_contract H enc W base args ds gs before hval hW hz hL

theorem urlFragments_said : Rows.UrlFragmentsSaid :=
  OpenClaim.holds_of_cond 6 Tryd.f6 rfl rfl rfl rfl rfl rfl rfl ⟨rfl, rfl, rfl, rfl, rfl⟩ rfl rfl rfl rfl rfl (by kernel_rfl) Tryd.func6 (by kernel_rfl)
    (of_decide_eq_true (by kernel_rfl)) (by unfold Func.isWrapper; first | (rw [if_pos (by decide +kernel)]; kernel_rfl) | (rw [if_neg (by decide +kernel)]; exact ⟨rfl, rfl⟩))
    (fun os started H enc _ F => by rw [OpenClaim.pre_eq_preRow]; exact urlFragments_lifted os started H enc F)

theorem urlFragments_plain (f : FuncId) (fn : Func) (hf : Tryd.pinned.checked.prog.funcNamed "carryall/carryalllaw11.UrlFragments" = some f) (hfn : Tryd.pinned.checked.prog.funcs[f]? = some fn) :
    false = Tryd.pinned.checked.prog.looks [] ∧ ∀ (j : Nat) t, fn.params[j]? = some t → Tryd.pinned.checked.prog.wantsStandIn t = false := by
  obtain rfl : f = 6 := Option.some.inj ((show Tryd.prog.funcNamed "carryall/carryalllaw11.UrlFragments" = some 6 by kernel_rfl).symm.trans hf) |>.symm
  obtain rfl : fn = Tryd.f6 := (Option.some.inj (Tryd.func6.symm.trans hfn)).symm
  refine ⟨by kernel_rfl, fun j t ht => ?_⟩
  rw [Tryd.params6] at ht
  have hm : t ∈ [24, 9] := by simpa using Array.mem_of_getElem? ht
  exact want (by kernel_rfl) hm

/-- THE CARD. -/
theorem urlFragments_card : Rows.UrlFragmentsCardSaid :=
  Claim7.holds_tied_plain_at .later [] _ _ _ _ urlFragments_said (fun _ h => by cases h) (by kernel_rfl) (fun _ h => by cases h) urlFragments_row_tie rfl ⟨rfl, rfl⟩ (by kernel_rfl) rfl urlFragments_plain (by kernel_rfl)
end Go.Proofs.YtlhpncpihbpkoaaDoor
