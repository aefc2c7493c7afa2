/- A URL that is handed in by value, opened: its thirteen cells, what its path's slice holds, and how long each part may be. Conditions: it is a value of its type in this world, and its weights are within reach. -/
import Derived.Test.YtlhpncpihbpkoaaDoorRow0
import Derived.Test.YtlhpncpihbpkoaaDoorUrl0
import Derived.Deep.Fields
import Derived.SliceStrings
namespace Go.Proofs.YtlhpncpihbpkoaaDoor
open Go.ChangeShapes Go.WideShapes Go.ChangeAt Go.ChangeMaps Go.RowKit

theorem weightsAll_mem {H : Type} {P : Program} {e : TypeId} : ∀ {l : List (DataW H)} {d : DataW H}, d ∈ l → ∀ n ∈ d.weights P e, n ∈ DataW.weightsAll P e l
  | a :: l, d, hd, n, hn => by
    simp only [DataW.weightsAll, List.mem_append]
    rcases List.mem_cons.1 hd with rfl | hd
    · exact Or.inl hn
    · exact Or.inr (weightsAll_mem hd n hn)

theorem cellsS : Tryd.prog.cellsOf 9 = 1 := by kernel_rfl
theorem cellsB : Tryd.prog.cellsOf 4 = 1 := by kernel_rfl
theorem cellsI : Tryd.prog.cellsOf 3 = 1 := by kernel_rfl
theorem cellsSl : Tryd.prog.cellsOf 22 = 1 := by kernel_rfl
theorem cellsU : Tryd.prog.cellsOf 24 = 13 := by kernel_rfl

theorem open_texts {H : Type} {enc : TypeId × Value → H} {w : World} {sp : Nat → Bool} {fuel : Nat} {cs : List Value} {x : DataW H × List MemPlace} (h : DataW.trod enc Tryd.prog w 0 sp true fuel 22 cs = some x)
    (hz : ∀ n ∈ x.1.weights Tryd.prog 22, n ≤ reachBytes) :
    ∃ (A : Option Addr) (ps : List ByteArray) (c : Nat), cs = [.slice A ps.length c] ∧ TextsAt w A ps ∧ (∀ s ∈ ps, s.size ≤ 140737488351232) := by
  rcases open_strings Tryd.underlying22 Tryd.underlying9 cellsS h with ⟨rfl, rfl⟩ | ⟨a, len, cap, ss, rfl, hb, hl, hm, hlen, rfl, hcell, hsz⟩
  · exact ⟨none, [], 0, rfl, ⟨by simp, fun h => by simp at h⟩, fun s hs => by cases hs⟩
  · have hln : len ≤ ss.length := by split at hlen <;> omega
    have htl : (ss.take len).length = len := by simp; omega
    refine ⟨some a, ss.take len, cap, by rw [htl], ⟨by rw [htl]; exact Nat.le_trans (Nat.le_trans hl hm) (by decide), fun _ => ⟨a, rfl, fun j hj => ?_⟩⟩, fun s hs => ?_⟩
    · rw [htl] at hj
      rw [hcell j (by omega)]
      simp [List.getD, hj]
    · have := hz s.data.toList.length (by
        simp only [DataW.weights, Tryd.underlying22, List.mem_cons, List.mem_append]
        exact Or.inr (Or.inl (weightsAll_mem (d := .lit (.string s.data.toList)) (by simp only [strs]; exact List.mem_map.2 ⟨s, hs, rfl⟩) _ (by simp [DataW.weights]))))
      have e : s.data.toList.length = s.size := Array.length_toList
      rw [e] at this
      exact this

theorem open_url {H : Type} {enc : TypeId × Value → H} {w : World} {sp : Nat → Bool} {r : Reach} {b0 : Nat} {v : Value} {d : DataW H} {p : List MemPlace}
    (hv : Value.okWide Tryd.prog w r b0 24 v) (h : DataW.Trod enc Tryd.prog w 0 sp true 24 v d p) (hz : ∀ n ∈ d.weights Tryd.prog 24, n ≤ reachBytes) :
    ∃ (sc us pa ho tx qu fr : ByteArray) (hh op hq hf : Bool) (po : Int) (A : Option Addr) (ps : List ByteArray) (c : Nat), v = .agg #[.string sc, .string us, .string pa, .string ho, .bool hh, .int .i64 po, .bool op, .string tx, .slice A ps.length c, .bool hq, .bool hf, .string qu, .string fr] ∧ TextsAt w A ps ∧ sc.size ≤ 140737488351232 ∧ us.size ≤ 140737488351232 ∧ pa.size ≤ 140737488351232 ∧ ho.size ≤ 140737488351232 ∧ tx.size ≤ 140737488351232 ∧ qu.size ≤ 140737488351232 ∧ fr.size ≤ 140737488351232 ∧ (∀ s ∈ ps, s.size ≤ 140737488351232) ∧ -9223372036854775808 ≤ po ∧ po ≤ 9223372036854775807 := by
  obtain ⟨cs, rfl, hsz⟩ := okWide_struct Tryd.underlying24 hv
  obtain ⟨n0, hf0⟩ := h
  obtain ⟨xs, n, _, hx, hl, hlen, hfld⟩ := DataW.trod_struct Tryd.underlying24 hf0
  simp only [Prod.mk.injEq] at hx
  obtain ⟨rfl, rfl⟩ := hx
  rw [cellsU] at hsz
  obtain ⟨l⟩ := cs
  have hll : l.length = 13 := hsz
  match l, hll with
  | [v0, v1, v2, v3, v4, v5, v6, v7, v8, v9, v10, v11, v12], _ =>
  match xs, hlen with
  | [y0, y1, y2, y3, y4, y5, y6, y7, y8, y9, y10, y11, y12], _ =>
  have q0 := hfld 0 _ rfl
  simp only [Value.cells, cellsS, List.drop_succ_cons, List.drop_zero, List.take_succ_cons, List.take_zero, List.getElem?_cons_succ, List.getElem?_cons_zero] at q0
  obtain ⟨sc, e0, rfl, _⟩ := DataW.trod_string Tryd.underlying9 q0
  obtain rfl := (List.cons.inj e0).1
  have q1 := hfld 1 _ rfl
  simp only [Value.cells, cellsS, List.drop_succ_cons, List.drop_zero, List.take_succ_cons, List.take_zero, List.getElem?_cons_succ, List.getElem?_cons_zero] at q1
  obtain ⟨us, e1, rfl, _⟩ := DataW.trod_string Tryd.underlying9 q1
  obtain rfl := (List.cons.inj e1).1
  have q2 := hfld 2 _ rfl
  simp only [Value.cells, cellsS, List.drop_succ_cons, List.drop_zero, List.take_succ_cons, List.take_zero, List.getElem?_cons_succ, List.getElem?_cons_zero] at q2
  obtain ⟨pa, e2, rfl, _⟩ := DataW.trod_string Tryd.underlying9 q2
  obtain rfl := (List.cons.inj e2).1
  have q3 := hfld 3 _ rfl
  simp only [Value.cells, cellsS, List.drop_succ_cons, List.drop_zero, List.take_succ_cons, List.take_zero, List.getElem?_cons_succ, List.getElem?_cons_zero] at q3
  obtain ⟨ho, e3, rfl, _⟩ := DataW.trod_string Tryd.underlying9 q3
  obtain rfl := (List.cons.inj e3).1
  have q4 := hfld 4 _ rfl
  simp only [Value.cells, cellsB, List.drop_succ_cons, List.drop_zero, List.take_succ_cons, List.take_zero, List.getElem?_cons_succ, List.getElem?_cons_zero] at q4
  obtain ⟨hh, e4, rfl⟩ := DataW.trod_bool Tryd.underlying4 q4
  obtain rfl := (List.cons.inj e4).1
  have q5 := hfld 5 _ rfl
  simp only [Value.cells, cellsI, List.drop_succ_cons, List.drop_zero, List.take_succ_cons, List.take_zero, List.getElem?_cons_succ, List.getElem?_cons_zero] at q5
  obtain ⟨po, e5, rfl, wf⟩ := DataW.trod_int Tryd.underlying3 q5
  obtain rfl := (List.cons.inj e5).1
  have q6 := hfld 6 _ rfl
  simp only [Value.cells, cellsB, List.drop_succ_cons, List.drop_zero, List.take_succ_cons, List.take_zero, List.getElem?_cons_succ, List.getElem?_cons_zero] at q6
  obtain ⟨op, e6, rfl⟩ := DataW.trod_bool Tryd.underlying4 q6
  obtain rfl := (List.cons.inj e6).1
  have q7 := hfld 7 _ rfl
  simp only [Value.cells, cellsS, List.drop_succ_cons, List.drop_zero, List.take_succ_cons, List.take_zero, List.getElem?_cons_succ, List.getElem?_cons_zero] at q7
  obtain ⟨tx, e7, rfl, _⟩ := DataW.trod_string Tryd.underlying9 q7
  obtain rfl := (List.cons.inj e7).1
  have q8 := hfld 8 _ rfl
  simp only [Value.cells, cellsSl, List.drop_succ_cons, List.drop_zero, List.take_succ_cons, List.take_zero, List.getElem?_cons_succ, List.getElem?_cons_zero] at q8
  obtain ⟨A, ps, c, e8, hp, hps⟩ := open_texts q8 (fun n hn => hz n (by simp only [DataW.weights, Tryd.underlying24]; exact DataW.weights_mem_each (j := 8) rfl rfl n hn))
  obtain rfl := (List.cons.inj e8).1
  have q9 := hfld 9 _ rfl
  simp only [Value.cells, cellsB, List.drop_succ_cons, List.drop_zero, List.take_succ_cons, List.take_zero, List.getElem?_cons_succ, List.getElem?_cons_zero] at q9
  obtain ⟨hq, e9, rfl⟩ := DataW.trod_bool Tryd.underlying4 q9
  obtain rfl := (List.cons.inj e9).1
  have q10 := hfld 10 _ rfl
  simp only [Value.cells, cellsB, List.drop_succ_cons, List.drop_zero, List.take_succ_cons, List.take_zero, List.getElem?_cons_succ, List.getElem?_cons_zero] at q10
  obtain ⟨hf, e10, rfl⟩ := DataW.trod_bool Tryd.underlying4 q10
  obtain rfl := (List.cons.inj e10).1
  have q11 := hfld 11 _ rfl
  simp only [Value.cells, cellsS, List.drop_succ_cons, List.drop_zero, List.take_succ_cons, List.take_zero, List.getElem?_cons_succ, List.getElem?_cons_zero] at q11
  obtain ⟨qu, e11, rfl, _⟩ := DataW.trod_string Tryd.underlying9 q11
  obtain rfl := (List.cons.inj e11).1
  have q12 := hfld 12 _ rfl
  simp only [Value.cells, cellsS, List.drop_succ_cons, List.drop_zero, List.take_succ_cons, List.take_zero, List.getElem?_cons_succ, List.getElem?_cons_zero] at q12
  obtain ⟨fr, e12, rfl, _⟩ := DataW.trod_string Tryd.underlying9 q12
  obtain rfl := (List.cons.inj e12).1
  have zsc : sc.size ≤ 140737488351232 := by
    have := hz sc.data.toList.length (by simp only [DataW.weights, Tryd.underlying24]; exact DataW.weights_mem_each (j := 0) rfl rfl _ (by simp [DataW.weights]))
    have e : sc.data.toList.length = sc.size := Array.length_toList
    rw [e] at this
    exact this
  have zus : us.size ≤ 140737488351232 := by
    have := hz us.data.toList.length (by simp only [DataW.weights, Tryd.underlying24]; exact DataW.weights_mem_each (j := 1) rfl rfl _ (by simp [DataW.weights]))
    have e : us.data.toList.length = us.size := Array.length_toList
    rw [e] at this
    exact this
  have zpa : pa.size ≤ 140737488351232 := by
    have := hz pa.data.toList.length (by simp only [DataW.weights, Tryd.underlying24]; exact DataW.weights_mem_each (j := 2) rfl rfl _ (by simp [DataW.weights]))
    have e : pa.data.toList.length = pa.size := Array.length_toList
    rw [e] at this
    exact this
  have zho : ho.size ≤ 140737488351232 := by
    have := hz ho.data.toList.length (by simp only [DataW.weights, Tryd.underlying24]; exact DataW.weights_mem_each (j := 3) rfl rfl _ (by simp [DataW.weights]))
    have e : ho.data.toList.length = ho.size := Array.length_toList
    rw [e] at this
    exact this
  have ztx : tx.size ≤ 140737488351232 := by
    have := hz tx.data.toList.length (by simp only [DataW.weights, Tryd.underlying24]; exact DataW.weights_mem_each (j := 7) rfl rfl _ (by simp [DataW.weights]))
    have e : tx.data.toList.length = tx.size := Array.length_toList
    rw [e] at this
    exact this
  have zqu : qu.size ≤ 140737488351232 := by
    have := hz qu.data.toList.length (by simp only [DataW.weights, Tryd.underlying24]; exact DataW.weights_mem_each (j := 11) rfl rfl _ (by simp [DataW.weights]))
    have e : qu.data.toList.length = qu.size := Array.length_toList
    rw [e] at this
    exact this
  have zfr : fr.size ≤ 140737488351232 := by
    have := hz fr.data.toList.length (by simp only [DataW.weights, Tryd.underlying24]; exact DataW.weights_mem_each (j := 12) rfl rfl _ (by simp [DataW.weights]))
    have e : fr.data.toList.length = fr.size := Array.length_toList
    rw [e] at this
    exact this
  have hwf : -9223372036854775808 ≤ po ∧ po ≤ 9223372036854775807 := by
    have m1 : IntKind.i64.min = -9223372036854775808 := by decide
    have m2 : IntKind.i64.max = 9223372036854775807 := by decide
    simp only [Lit.wf, Bool.and_eq_true, decide_eq_true_eq, m1, m2] at wf
    exact wf
  exact ⟨sc, us, pa, ho, tx, qu, fr, hh, op, hq, hf, po, A, ps, c, rfl, hp, zsc, zus, zpa, zho, ztx, zqu, zfr, hps, hwf⟩
end Go.Proofs.YtlhpncpihbpkoaaDoor
