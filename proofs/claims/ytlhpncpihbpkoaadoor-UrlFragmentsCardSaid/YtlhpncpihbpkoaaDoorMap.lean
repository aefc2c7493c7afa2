/- The map of schemes that url.ports makes: the literal's inserts by the laws on owned maps; what Special and Default answer of any text. -/
import Derived.Test.YtlhpncpihbpkoaaDoorRows
import Derived.Maps.OwnSet
import Derived.WalkKit
namespace Go.Proofs.YtlhpncpihbpkoaaDoor
open Go.RowKit Go.Maps Go.WideMaps

/-- A literal's insert, at the operation, as a store. -/
theorem wpList_insert_own {H : Type} {P : Program} (w : World) {ops : Array Oper} {rest : List Oper} {o : Oper} {a : Act} {Q : Exit → Act → World → Prop}
    (hg : o.guard = none) (m x v : Operand) (t : TypeId) (hop : o.op = Op.insert t m x v)
    (k e : TypeId) (K : Keyed P k) (ht : P.underlying t = some (.map k e)) (R : Value → Option (DataW H × List MemPlace)) (b n : Nat) (D : DataW H)
    (hm : a.eval m = .map (some b)) (hown : w.ownsMap P k R b n D) (hn : n < maxLen) (key val : Value) (kl : Lit) (hx : a.eval x = key) (hv : a.eval v = val) (hkey : keyOf P k key = some kl)
    (d : DataW H) (ps : List MemPlace) (hval : R val = some (d, ps))
    (hK : ∀ w', w'.ownsMap P k R b (n + 1) (D.put kl d) → w.grownBy w' (some b) → wpList P ops Q rest (a.put o.dst undef) w') :
    wpList P ops Q (o :: rest) a w := by
  refine wpList_plain hg fun K' hK' => ?_
  obtain ⟨w', hrun, r1, r2⟩ := hown.update K ht hn hkey hval
  unfold Oper.wp
  simp [execOp, hop, hm, hx, hv, hrun, Result.andThen]
  exact hK' _ _ (hK w' r1 r2)

theorem lawS : Keyed Tryd.prog 9 := string_keyed Tryd.underlying9
theorem zeroI (w : World) : (zeroValue 3).run Tryd.prog w = .ok (.int .i64 0) w := by kernel_rfl

/-- What the map reads as. -/
def portsD : DataW Unit := ((((((DataW.map []).put (.string [102, 116, 112]) (.lit (.int .i64 21))).put (.string [102, 105, 108, 101]) (.lit (.int .i64 (-1)))).put (.string [104, 116, 116, 112]) (.lit (.int .i64 80))).put (.string [104, 116, 116, 112, 115]) (.lit (.int .i64 443))).put (.string [119, 115]) (.lit (.int .i64 80))).put (.string [119, 115, 115]) (.lit (.int .i64 443))

set_option maxRecDepth 100000 in
theorem ports_any (w : World) : Calls Tryd.prog 33 #[] w fun e w' => ∃ b, e = .returned (.map (some b)) ∧ w'.ownsMap Tryd.prog 9 (plainElem (H := Unit) Tryd.prog 3) b 6 portsD ∧ Below w.heap.size w w' := by
  have h0 := World.ownsMap_made w Tryd.prog 9 (plainElem (H := Unit) Tryd.prog 3)
  have hmm := @run_makeMap Tryd.prog
  have b0 := (Below.refl w.heap.size w).alloc (Nat.le_refl _) (.map #[] 0)
  go_enter Tryd.func33, Tryd.ntmps33
  go_wp2_with (first
    | (refine wpList_insert_own _ rfl _ _ _ 53 rfl 9 3 lawS Tryd.underlying53 _ _ 0 _ rfl h0 (by decide) _ _ _ rfl rfl (keyOf_string_mk Tryd.underlying9 (by decide)) _ [] (plainElem_int (a := 21) Tryd.underlying3 (by decide)) ?_; intro w1 h1 g1)
    | (refine wpList_insert_own _ rfl _ _ _ 53 rfl 9 3 lawS Tryd.underlying53 _ _ 1 _ rfl h1 (by decide) _ _ _ rfl rfl (keyOf_string_mk Tryd.underlying9 (by decide)) _ [] (plainElem_int (a := (-1)) Tryd.underlying3 (by decide)) ?_; intro w2 h2 g2)
    | (refine wpList_insert_own _ rfl _ _ _ 53 rfl 9 3 lawS Tryd.underlying53 _ _ 2 _ rfl h2 (by decide) _ _ _ rfl rfl (keyOf_string_mk Tryd.underlying9 (by decide)) _ [] (plainElem_int (a := 80) Tryd.underlying3 (by decide)) ?_; intro w3 h3 g3)
    | (refine wpList_insert_own _ rfl _ _ _ 53 rfl 9 3 lawS Tryd.underlying53 _ _ 3 _ rfl h3 (by decide) _ _ _ rfl rfl (keyOf_string_mk Tryd.underlying9 (by decide)) _ [] (plainElem_int (a := 443) Tryd.underlying3 (by decide)) ?_; intro w4 h4 g4)
    | (refine wpList_insert_own _ rfl _ _ _ 53 rfl 9 3 lawS Tryd.underlying53 _ _ 4 _ rfl h4 (by decide) _ _ _ rfl rfl (keyOf_string_mk Tryd.underlying9 (by decide)) _ [] (plainElem_int (a := 80) Tryd.underlying3 (by decide)) ?_; intro w5 h5 g5)
    | (refine wpList_insert_own _ rfl _ _ _ 53 rfl 9 3 lawS Tryd.underlying53 _ _ 5 _ rfl h5 (by decide) _ _ _ rfl rfl (keyOf_string_mk Tryd.underlying9 (by decide)) _ [] (plainElem_int (a := 443) Tryd.underlying3 (by decide)) ?_; intro w6 h6 g6)
    | fail)
  have B : Below w.heap.size w w6 := by
    have z0 := b0.size
    have B1 := b0.grown g1 z0 (fun j hj => by cases hj; exact Nat.le_refl _)
    have B2 := B1.grown g2 B1.size (fun j hj => by cases hj; exact Nat.le_refl _)
    have B3 := B2.grown g3 B2.size (fun j hj => by cases hj; exact Nat.le_refl _)
    have B4 := B3.grown g4 B3.size (fun j hj => by cases hj; exact Nat.le_refl _)
    have B5 := B4.grown g5 B4.size (fun j hj => by cases hj; exact Nat.le_refl _)
    exact B5.grown g6 B5.size (fun j hj => by cases hj; exact Nat.le_refl _)
  clear b0
  go_wp2
  go_ret
  exact ⟨_, rfl, h6, B⟩

/-- The ports of special schemes. -/
def portOf (l : List UInt8) : Option Int :=
  if l = [102, 116, 112] then some 21 else if l = [102, 105, 108, 101] then some (-1) else if l = [104, 116, 116, 112] then some 80
  else if l = [104, 116, 116, 112, 115] then some 443 else if l = [119, 115] then some 80 else if l = [119, 115, 115] then some 443 else none

theorem portsD_is : portsD = .map [(.string [102, 105, 108, 101], .lit (.int .i64 (-1))), (.string [102, 116, 112], .lit (.int .i64 21)), (.string [104, 116, 116, 112], .lit (.int .i64 80)), (.string [104, 116, 116, 112, 115], .lit (.int .i64 443)), (.string [119, 115], .lit (.int .i64 80)), (.string [119, 115, 115], .lit (.int .i64 443))] := by
  rfl

theorem same_str (a l : List UInt8) : (Lit.string a).sameKey (.string l) = decide (l = a) := by
  rw [Bool.eq_iff_iff]
  simp [Lit.sameKey]
  exact eq_comm

theorem has_ports (l : List UInt8) : Maps.has portsD (.string l) = (portOf l).isSome := by
  rw [portsD_is, has_eq]
  simp only [List.any_cons, List.any_nil, same_str]
  unfold portOf
  by_cases h1 : l = [102, 105, 108, 101]
  · subst h1; decide
  by_cases h2 : l = [102, 116, 112]
  · subst h2; decide
  by_cases h3 : l = [104, 116, 116, 112]
  · subst h3; decide
  by_cases h4 : l = [104, 116, 116, 112, 115]
  · subst h4; decide
  by_cases h5 : l = [119, 115]
  · subst h5; decide
  by_cases h6 : l = [119, 115, 115]
  · subst h6; decide
  simp [h1, h2, h3, h4, h5, h6]
theorem at_ports (l : List UInt8) : portsD.atKey (.string l) (.lit (.int .i64 0)) = .lit (.int .i64 ((portOf l).getD 0)) := by
  rw [portsD_is]
  simp only [DataW.atKey, List.find?_cons, List.find?_nil, same_str]
  unfold portOf
  by_cases h1 : l = [102, 105, 108, 101]
  · subst h1; rfl
  by_cases h2 : l = [102, 116, 112]
  · subst h2; rfl
  by_cases h3 : l = [104, 116, 116, 112]
  · subst h3; rfl
  by_cases h4 : l = [104, 116, 116, 112, 115]
  · subst h4; rfl
  by_cases h5 : l = [119, 115]
  · subst h5; rfl
  by_cases h6 : l = [119, 115, 115]
  · subst h6; rfl
  simp [h1, h2, h3, h4, h5, h6]

set_option maxRecDepth 100000 in
theorem special_any (s : ByteArray) (w : World) (hs : s.size ≤ maxLen) : Calls Tryd.prog 20 #[.string s] w fun e w' => e = .returned (.bool (portOf s.data.toList).isSome) ∧ Below w.heap.size w w' := by
  have hkey := keyOf_string_mk Tryd.underlying9 hs
  go_enter Tryd.func20, Tryd.ntmps20
  go_wp2_with (first
    | (go_at_call 33; refine (ports_any _).mono ?_; rintro e w1 ⟨b, rfl, hown, hb⟩)
    | (at_lookup; refine wpList_lookup_own_ok_int _ rfl _ _ 53 rfl 9 3 .i64 lawS Tryd.underlying53 Tryd.underlying3 (zeroI _) b 6 portsD rfl hown _ _ rfl hkey ?_; intro c hat hwc)
    | fail)
  go_ret
  exact ⟨congrArg (fun b => Ending.returned (.bool b)) (has_ports _), hb⟩

set_option maxRecDepth 100000 in
theorem default_any (s : ByteArray) (w : World) (hs : s.size ≤ maxLen) : Calls Tryd.prog 21 #[.string s] w fun e w' => e = .returned (.int .i64 ((portOf s.data.toList).getD (-1))) ∧ Below w.heap.size w w' := by
  have hkey := keyOf_string_mk Tryd.underlying9 hs
  go_enter Tryd.func21, Tryd.ntmps21
  go_wp2_with (first
    | (go_at_call 33; refine (ports_any _).mono ?_; rintro e w1 ⟨b, rfl, hown, hb⟩)
    | (at_lookup; refine wpList_lookup_own_ok_int _ rfl _ _ 53 rfl 9 3 .i64 lawS Tryd.underlying53 Tryd.underlying3 (zeroI _) b 6 portsD rfl hown _ _ rfl hkey ?_; intro c hat hwc)
    | fail)
  · have hh : Maps.has portsD (.string s.data.toList) = false := by simpa using (show (!Maps.has portsD (.string s.data.toList)) = true by assumption)
    rw [has_ports] at hh
    go_ret
    exact ⟨congrArg (fun b => Ending.returned (.int .i64 b)) (by rw [show portOf s.data.toList = none from Option.not_isSome_iff_eq_none.1 (by rw [hh]; decide)]; rfl), hb⟩
  · have hh : Maps.has portsD (.string s.data.toList) = true := by simpa using (show (!Maps.has portsD (.string s.data.toList)) = false by assumption)
    rw [has_ports] at hh
    rw [at_ports] at hat
    obtain ⟨x, hx⟩ := Option.isSome_iff_exists.1 hh
    go_ret
    refine ⟨congrArg (fun b => Ending.returned (.int .i64 b)) ?_, hb⟩
    rw [hx] at hat ⊢
    injection hat with h1
    injection h1 with _ h2
    exact h2.symm
end Go.Proofs.YtlhpncpihbpkoaaDoor
