/- BaseWrites over lists and numbers alone: the printed function answers true at every input of its kinds. No other conditions. -/
import Derived.Test.YtlhpncpihbpkoaaDoorPure3
import Derived.Test.YtlhpncpihbpkoaaDoorX7
namespace Go.Proofs.YtlhpncpihbpkoaaDoor.X
open Go.RowKit Go.Proofs.YtlhpncpihbpkoaaDoorW.PrintWords Go.Proofs.YtlhpncpihbpkoaaDoorW.PrintLast Go.Proofs.YtlhpncpihbpkoaaDoorW.PrintMore

theorem bt_bs {m : List UInt8} {j : Nat} {c : UInt8} (h : m[j]? = some c) : bt (bs m) (j : Int) = (c.toNat : Int) := by
  obtain ⟨hl, hc⟩ := List.getElem?_eq_some_iff.1 h
  have key : ∀ (i : Nat) (hi : i = j) (h' : i < (bs m).size), (((bs m)[i]'h').toNat : Int) = (c.toNat : Int) := by
    intro i hi h'
    subst hi
    show (((m[i]'hl).toNat : Nat) : Int) = _
    rw [hc]
  unfold bt
  rw [dif_pos (show (j : Int).toNat < (bs m).size by rw [Int.toNat_natCast, bs_size]; exact hl)]
  exact key _ (Int.toNat_natCast j) _
theorem strip_loop (x0 : List Int) (x3 : ByteArray) (x4 : List Int) (x5 : Bool) (u : List UInt8) (hu : ∀ c, u.getLast? = some c → c ≠ 61) (hul : u.length ≤ 1000) (R : Option Bool)
    (hR : ((Ext.base_Decode.f (bs u)).bind fun bt108 => ((Ext.ref03_Encode.f x0).bind fun t112 => (if x3.toList = t112.toList then (if x5 = true then (if bt108.2 = true then (if (strOfNums x4).toList = (strOfNums x0).toList then (some ((strOfNums bt108.1).toList == (strOfNums x0).toList)) else (some false)) else (some false)) else (some false)) else (some false)))) = R) :
    ∀ j k, j ≤ 1000 → carryalllaw03_BaseWrites.l0 (k + j + 1) x0 x3 x4 x5 (bs (u ++ List.replicate j 61)) = R := by
  intro j
  induction j with
  | zero =>
    intro k _
    rw [List.replicate_zero, List.append_nil]
    rcases List.eq_nil_or_concat u with rfl | ⟨v, c, rfl⟩
    · simp only [carryalllaw03_BaseWrites.l0]
      rw [if_pos (bs_toList [])]
      exact hR
    · simp only [carryalllaw03_BaseWrites.l0]
      rw [if_neg (by rw [bs_toList]; simp)]
      have hsz : (bs (v ++ [c])).size = v.length + 1 := by rw [bs_size]; simp
      simp only [List.concat_eq_append] at hu hul hR ⊢
      have hl : v.length ≤ 1000 := by simp at hul; omega
      have hw : wrap64 (((bs (v ++ [c])).size : Int) - 1) = (v.length : Int) := by rw [hsz, w64 (by omega) (by omega)]; omega
      rw [hw, if_pos (by omega), if_pos (by rw [hsz]; omega)]
      have hb : bt (bs (v ++ [c])) (v.length : Int) = (c.toNat : Int) := bt_bs (by simp)
      have hc := hu c (by simp)
      rw [hb, if_neg (by
        intro e
        apply hc
        apply UInt8.toNat_inj.1
        show c.toNat = 61
        omega)]
      exact hR
  | succ j ih =>
    intro k hj
    rw [show k + (j + 1) + 1 = (k + j + 1) + 1 by omega]
    simp only [carryalllaw03_BaseWrites.l0]
    have he : u ++ List.replicate (j + 1) 61 = (u ++ List.replicate j 61) ++ [61] := by rw [List.replicate_succ', List.append_assoc]
    rw [he]
    have hsz : (bs ((u ++ List.replicate j 61) ++ [61])).size = u.length + j + 1 := by rw [bs_size]; simp; omega
    rw [if_neg (by rw [bs_toList]; simp)]
    have hw : wrap64 (((bs ((u ++ List.replicate j 61) ++ [61])).size : Int) - 1) = ((u.length + j : Nat) : Int) := by rw [hsz, w64 (by omega) (by omega)]; omega
    rw [hw, if_pos (by omega), if_pos (by rw [hsz]; omega)]
    have hb : bt (bs ((u ++ List.replicate j 61) ++ [61])) ((u.length + j : Nat) : Int) = 61 :=
      bt_bs (c := 61) (by rw [List.getElem?_append_right (by simp)]; simp)
    rw [hb, if_pos rfl, if_pos (by rw [hsz]; omega)]
    have hx : (bs ((u ++ List.replicate j 61) ++ [61])).extract 0 ((u.length + j : Nat) : Int).toNat = bs (u ++ List.replicate j 61) := by
      have e : ((bs ((u ++ List.replicate j 61) ++ [61])).extract 0 ((u.length + j : Nat) : Int).toNat).data.toList = (bs (u ++ List.replicate j 61)).data.toList := by
        rw [Lib.extract_data, bs_list, bs_list, Int.toNat_natCast, Nat.sub_zero, List.drop_zero]
        exact List.take_left' (by simp)
      exact WideShapes.bytes_inj e
    rw [hx]
    exact ih k (by omega)

theorem u3_last (l : List UInt8) (c : UInt8) (h : (u3 l).getLast? = some c) : c ≠ 61 := by
  rw [u3_n3] at h
  obtain ⟨n, hn, rfl⟩ := List.mem_map.1 (List.mem_of_getLast? h)
  exact let_ne n (n3_lt l n hn)

theorem BaseWrites_pure (l0 : List Int) (hb : okB l0 = true) : ∃ k, carryalllaw03_BaseWrites.f k l0 = some true := by
  refine ⟨4, ?_⟩
  unfold carryalllaw03_BaseWrites.f Ext.law03_awake.f
  simp only [Option.bind_some, if_true]
  by_cases hz : (l0.length : Int) > 300
  · rw [decide_eq_true hz]
    simp only [carryalllaw03_BaseWrites.j0, if_true, Ext.law03_awake.f, Option.bind_some]
  · rw [decide_eq_false hz]
    simp only [carryalllaw03_BaseWrites.j0, Bool.false_eq_true, if_false]
    have hl : (toB l0).length = l0.length := toB_len l0
    have he := e3_len (toB l0)
    have hcat := e3_u3 (toB l0)
    rw [benc l0 hb (by omega)]
    simp only [Option.bind_some]
    rw [bdec _ (by rw [bs_size]; omega), bs_list, dec_e3]
    simp only [Option.bind_some, Option.getD_some, Option.isSome_some]
    have hu : (u3 (toB l0)).length ≤ 1000 := by
      have := congrArg List.length hcat
      rw [List.length_append] at this
      omega
    have hpad : ∃ j, j ≤ 2 ∧ padL (toB l0) = List.replicate j 61 := by
      unfold padL
      split
      · exact ⟨0, by omega, rfl⟩
      · split
        · exact ⟨2, by omega, rfl⟩
        · exact ⟨1, by omega, rfl⟩
    obtain ⟨j, hj, hp⟩ := hpad
    rw [show carryalllaw03_BaseWrites.l0 3 = carryalllaw03_BaseWrites.l0 ((2 - j) + j + 1) by congr 1; omega]
    have key := strip_loop l0 (bs (e3 (toB l0))) (ofB (toB l0)) true (u3 (toB l0)) (fun c h => u3_last _ c h) hu (some true) (by
      rw [bdec _ (by rw [bs_size]; omega), bs_list, dec_u3, renc l0 hb (by omega)]
      simp [ofB_toB hb]) j (2 - j) (by omega)
    rw [← hp, ← hcat] at key
    exact key
end Go.Proofs.YtlhpncpihbpkoaaDoor.X
