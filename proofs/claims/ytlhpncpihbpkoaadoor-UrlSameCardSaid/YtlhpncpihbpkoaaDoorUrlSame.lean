/- UrlSame: the row and the card (likeness of URLs). For every input: the law returns true and each argument reads behind the call as it read before. Conditions: none beyond the row's own (the listed tables lie as their initialisers lay them). -/
import Derived.Test.YtlhpncpihbpkoaaDoorRow0
import Derived.Test.YtlhpncpihbpkoaaDoorRow1
import Derived.Test.YtlhpncpihbpkoaaDoorUrl15
namespace Go.Proofs.YtlhpncpihbpkoaaDoor
open Go.ChangeShapes Go.WideShapes Go.ChangeAt Go.ChangeMaps Go.RowKit

set_option maxRecDepth 100000 in
theorem urlSame_contract (H : Type) (enc : TypeId × Value → H) (W : World) (base : Nat) (args : Array Value) (ds gs : List (DataW H)) (before : List MemPlace)
    (hval : ∀ (j : Nat) t v, Tryd.f5.params[j]? = some t → args[j]? = some v → Value.okWide Tryd.prog W .any base t v)
    (hW : DataW.Whole enc Tryd.prog Tryd.f5.params.toList Rows.urlSameSpec.vars false W args.toList ds gs before) (hz : (DataW.weightsEach Tryd.prog (Tryd.f5.params.toList ++ (OpenSpec.ofChange Rows.urlSameSpec).bare.plain.varTypes Tryd.prog) (ds ++ gs)).all (· ≤ reachBytes) = true) (hL : laidMetH Tryd.prog Rows.urlSameRow.laid W) :
    Calls Tryd.prog 5 args W fun e W' => ∃ v, e = .returned v ∧ Rows.urlSameSpec.post enc Tryd.prog Tryd.f5 false true false false W args v W' := by
  have hW' := hW
  have tz0 : (Tryd.f5.params.toList ++ (OpenSpec.ofChange Rows.urlSameSpec).bare.plain.varTypes Tryd.prog)[0]? = some 24 := by kernel_rfl
  have tz1 : (Tryd.f5.params.toList ++ (OpenSpec.ofChange Rows.urlSameSpec).bare.plain.varTypes Tryd.prog)[1]? = some 24 := by kernel_rfl
  obtain ⟨p, q, hA0, hV, rfl, hfz, hnd⟩ := hW
  have hA : DataW.TrodAll enc Tryd.prog W 0 (fun _ => true) true Tryd.f5.params.toList args.toList ds p := hA0
  rw [Tryd.params5] at hA hval
  obtain ⟨v0, v1, d0, d1, p0, p1, rfl, rfl, rfl, k0, k1⟩ := trodAll_two hA
  obtain ⟨rfl, rfl⟩ := trodVars_none hV
  have y0 : ∀ n ∈ d0.weights Tryd.prog 24, n ≤ reachBytes := fun n hn => by simpa using List.all_eq_true.1 hz n (DataW.weights_mem_each tz0 rfl n hn)
  have y1 : ∀ n ∈ d1.weights Tryd.prog 24, n ≤ reachBytes := fun n hn => by simpa using List.all_eq_true.1 hz n (DataW.weights_mem_each tz1 rfl n hn)
  obtain ⟨sc0, us0, pa0, ho0, tx0, qu0, fr0, hh0, op0, hq0, hf0, po0, A0, ps0, c0, rfl, hp0, zsc0, zus0, zpa0, zho0, ztx0, zqu0, zfr0, zs0, h00, h10⟩ := open_url (hval 0 24 v0 rfl rfl) k0 y0
  obtain ⟨sc1, us1, pa1, ho1, tx1, qu1, fr1, hh1, op1, hq1, hf1, po1, A1, ps1, c1, rfl, hp1, zsc1, zus1, zpa1, zho1, ztx1, zqu1, zfr1, zs1, h01, h11⟩ := open_url (hval 1 24 v1 rfl rfl) k1 y1
  refine (samelaw_any sc0 us0 pa0 ho0 tx0 qu0 fr0 hh0 op0 hq0 hf0 po0 A0 ps0 c0 sc1 us1 pa1 ho1 tx1 qu1 fr1 hh1 op1 hq1 hf1 po1 A1 ps1 c1 W (tab11 hL) hp0 hp1 zsc0 zus0 zpa0 zho0 ztx0 zqu0 zfr0 zs0 h00 h10 zsc1 zus1 zpa1 zho1 ztx1 zqu1 zfr1 zs1 h01 h11).mono fun e W' ⟨he, bel⟩ => ?_
  subst he
  exact ⟨_, rfl, _, _, _, [], _, [], hW', trodAll_mk1 (shut_bool Tryd.underlying4 _),
    trodAll_mk2 (stays (by kernel_rfl) (by kernel_rfl) k0 bel) (stays (by kernel_rfl) (by kernel_rfl) k1 bel), rfl, bel.frame _, fun h => by cases h⟩

set_option maxRecDepth 100000 in
theorem urlSame_reads (os : Os) {H : Type} (enc : TypeId × Value → H) : ∃ places, DataW.whole enc Tryd.prog ((World.laidAll Tryd.prog os laid11).forCall (fun _ _ => 0) ⟨#[], #[.agg #[.string ⟨#[]⟩, .string ⟨#[]⟩, .string ⟨#[]⟩, .string ⟨#[]⟩, .bool false, .int .i64 0, .bool false, .string ⟨#[]⟩, .slice none 0 0, .bool false, .bool false, .string ⟨#[]⟩, .string ⟨#[]⟩], .agg #[.string ⟨#[]⟩, .string ⟨#[]⟩, .string ⟨#[]⟩, .string ⟨#[]⟩, .bool false, .int .i64 0, .bool false, .string ⟨#[]⟩, .slice none 0 0, .bool false, .bool false, .string ⟨#[]⟩, .string ⟨#[]⟩]], []⟩).memory Tryd.f5.params.toList Rows.urlSameSpec.vars false (#[.agg #[.string ⟨#[]⟩, .string ⟨#[]⟩, .string ⟨#[]⟩, .string ⟨#[]⟩, .bool false, .int .i64 0, .bool false, .string ⟨#[]⟩, .slice none 0 0, .bool false, .bool false, .string ⟨#[]⟩, .string ⟨#[]⟩], .agg #[.string ⟨#[]⟩, .string ⟨#[]⟩, .string ⟨#[]⟩, .string ⟨#[]⟩, .bool false, .int .i64 0, .bool false, .string ⟨#[]⟩, .slice none 0 0, .bool false, .bool false, .string ⟨#[]⟩, .string ⟨#[]⟩]] : Array Value).toList 8 = some ([.agg [.lit (.string []), .lit (.string []), .lit (.string []), .lit (.string []), .lit (.bool false), .lit (.int .i64 0), .lit (.bool false), .lit (.string []), .nil, .lit (.bool false), .lit (.bool false), .lit (.string []), .lit (.string [])], .agg [.lit (.string []), .lit (.string []), .lit (.string []), .lit (.string []), .lit (.bool false), .lit (.int .i64 0), .lit (.bool false), .lit (.string []), .nil, .lit (.bool false), .lit (.bool false), .lit (.string []), .lit (.string [])]], [], places) :=
  ⟨[], by kernel_rfl⟩

set_option maxRecDepth 100000 in
theorem urlSame_lifted (os : Os) (started : os.Started) (H : Type) (enc : TypeId × Value → H) (F : Stop.Interp) :
    ReturnsInHanded {} Tryd.checked os 5 .any ((OpenSpec.ofChange Rows.urlSameSpec).preRow enc Tryd.prog Tryd.f5 Rows.urlSameRow.domain false Rows.urlSameRow.laid) (((OpenSpec.ofChange Rows.urlSameSpec).at F).post enc Tryd.prog Tryd.f5 false true false false) := by
  obtain ⟨places, hx⟩ := urlSame_reads os enc
  refine returnsInHanded_of_row (C := Tryd.checked) (s := OpenSpec.ofChange Rows.urlSameSpec) own started (by kernel_rfl) Tryd.func5
    (witness_row_at (enc := enc) (C := Tryd.checked) false (World.laidAll Tryd.prog os laid11) #[.agg #[.string ⟨#[]⟩, .string ⟨#[]⟩, .string ⟨#[]⟩, .string ⟨#[]⟩, .bool false, .int .i64 0, .bool false, .string ⟨#[]⟩, .slice none 0 0, .bool false, .bool false, .string ⟨#[]⟩, .string ⟨#[]⟩], .agg #[.string ⟨#[]⟩, .string ⟨#[]⟩, .string ⟨#[]⟩, .string ⟨#[]⟩, .bool false, .int .i64 0, .bool false, .string ⟨#[]⟩, .slice none 0 0, .bool false, .bool false, .string ⟨#[]⟩, .string ⟨#[]⟩]] (World.laidAll_os _ _ _) (by kernel_rfl) (by kernel_rfl) (by kernel_rfl)
      (OpenSpec.preRow_of_cond 8 hx (by kernel_rfl) (fun k hk => by cases hk) (by kernel_rfl) (met11 os _))) ?_
  intro W base args ds gs before hval hW _ _ hz hL _ _
  exact urlSame_contract H enc W base args ds gs before hval hW hz hL

theorem urlSame_said : Rows.UrlSameSaid :=
  OpenClaim.holds_of_cond 5 Tryd.f5 rfl rfl rfl rfl rfl rfl rfl ⟨rfl, rfl, rfl, rfl, rfl⟩ rfl rfl rfl rfl rfl (by kernel_rfl) Tryd.func5 (by kernel_rfl)
    (of_decide_eq_true (by kernel_rfl)) (by unfold Func.isWrapper; first | (rw [if_pos (by decide +kernel)]; kernel_rfl) | (rw [if_neg (by decide +kernel)]; exact ⟨rfl, rfl⟩))
    (fun os started H enc _ F => by rw [OpenClaim.pre_eq_preRow]; exact urlSame_lifted os started H enc F)

theorem urlSame_plain (f : FuncId) (fn : Func) (hf : Tryd.pinned.checked.prog.funcNamed "carryall/carryalllaw11.UrlSame" = some f) (hfn : Tryd.pinned.checked.prog.funcs[f]? = some fn) :
    false = Tryd.pinned.checked.prog.looks [] ∧ ∀ (j : Nat) t, fn.params[j]? = some t → Tryd.pinned.checked.prog.wantsStandIn t = false := by
  obtain rfl : f = 5 := Option.some.inj ((show Tryd.prog.funcNamed "carryall/carryalllaw11.UrlSame" = some 5 by kernel_rfl).symm.trans hf) |>.symm
  obtain rfl : fn = Tryd.f5 := (Option.some.inj (Tryd.func5.symm.trans hfn)).symm
  refine ⟨by kernel_rfl, fun j t ht => ?_⟩
  rw [Tryd.params5] at ht
  have hm : t ∈ [24, 24] := by simpa using Array.mem_of_getElem? ht
  exact want (by kernel_rfl) hm

/-- THE CARD. -/
theorem urlSame_card : Rows.UrlSameCardSaid :=
  Claim7.holds_tied_plain_at .later [] _ _ _ _ urlSame_said (fun _ h => by cases h) (by kernel_rfl) (fun _ h => by cases h) urlSame_row_tie rfl ⟨rfl, rfl⟩ (by kernel_rfl) rfl urlSame_plain (by kernel_rfl)
end Go.Proofs.YtlhpncpihbpkoaaDoor
