/- Bytes in the printer's words and in ours: a slice that is read, a row that the call made. Conditions stand in the statements. -/
import Derived.Test.YtlhpncpihbpkoaaDoorConv
import Derived.Test.YtlhpncpihbpkoaaDoorWMore
namespace Go.Proofs.YtlhpncpihbpkoaaDoor
open Go.RowKit Go.Proofs.YtlhpncpihbpkoaaDoorW.PrintWords

/-- Numbers as bytes, bytes as numbers. -/
def toB (l : List Int) : List UInt8 := l.map fun x => UInt8.ofNat x.toNat
def ofB (l : List UInt8) : List Int := l.map fun x => (x.toNat : Int)
def okB (l : List Int) : Bool := l.all fun x => decide (0 ≤ x) && decide (x ≤ 255)
theorem okB_mem {l : List Int} (h : okB l = true) : ∀ x ∈ l, 0 ≤ x ∧ x ≤ 255 := by
  intro x hx
  have := List.all_eq_true.1 h x hx
  simpa using this
theorem okB_of {l : List Int} (h : ∀ x ∈ l, 0 ≤ x ∧ x ≤ 255) : okB l = true := by
  refine List.all_eq_true.2 fun x hx => ?_
  simpa using h x hx
theorem toB_len (l : List Int) : (toB l).length = l.length := by simp [toB]
theorem ofB_len (l : List UInt8) : (ofB l).length = l.length := by simp [ofB]
theorem toB_ofB (l : List UInt8) : toB (ofB l) = l := by
  unfold toB ofB
  rw [List.map_map]
  have : ((fun x : Int => UInt8.ofNat x.toNat) ∘ fun x : UInt8 => (x.toNat : Int)) = id := by funext x; simp
  rw [this, List.map_id]
theorem ofB_toB {l : List Int} (h : okB l = true) : ofB (toB l) = l := by
  unfold toB ofB
  rw [List.map_map]
  have : ∀ x ∈ l, ((fun x : UInt8 => (x.toNat : Int)) ∘ fun x : Int => UInt8.ofNat x.toNat) x = id x := by
    intro x hx
    have := okB_mem h x hx
    simp
    omega
  rw [List.map_congr_left this, List.map_id]
theorem okB_ofB (l : List UInt8) : okB (ofB l) = true := by
  refine okB_of fun x hx => ?_
  obtain ⟨y, _, rfl⟩ := List.mem_map.1 hx
  have := y.toNat_lt
  omega
theorem strOfNums_toB (l : List Int) : strOfNums l = bs (toB l) := rfl
theorem toB_at {l : List Int} (h : okB l = true) {j : Nat} {x : UInt8} (hj : (toB l)[j]? = some x) : l[j]? = some (x.toNat : Int) := by
  have e : (ofB (toB l))[j]? = some (x.toNat : Int) := by unfold ofB; rw [List.getElem?_map, hj]; rfl
  rwa [ofB_toB h] at e
theorem bytes_of_C {w : World} {A : Option Addr} {l : List Int} {c : Nat} (h : (Kd.int .u8).C w A l.length l) (hc : l.length ≤ c) (hb : okB l = true) : BytesAt w A (toB l) c := by
  refine ⟨by rw [toB_len]; exact hc, fun hn => ?_⟩
  rw [toB_len] at hn
  obtain ⟨ad, rfl, hcell⟩ := h.2.2 hn
  have key : ∀ j p, l[j]? = some p → w.cell? (ad.add j) = some (.int .u8 p) := by
    intro j p hj
    obtain ⟨cs, _, hk, hu⟩ := hcell j p hj
    have hk' : cs = [.int .u8 p] := hk
    subst hk'
    have := hu 0 _ rfl
    simpa [Kd.int, Kd.scalar] using this
  have h0 := key 0 _ (List.getElem?_eq_getElem hn)
  have hsp : ad.spot = none := by
    unfold Addr.add at h0
    rw [if_pos rfl] at h0
    unfold World.cell? at h0
    split at h0
    · split at h0
      · cases h0
      · rename_i h; simpa using h
    · cases h0
  obtain ⟨b, o, s⟩ := ad
  simp only at hsp
  subst hsp
  refine ⟨b, o, rfl, fun j x hj => ?_⟩
  have := key j _ (toB_at hb hj)
  have e2 : ((⟨b, o, none⟩ : Addr).add j) = ⟨b, o + j, none⟩ := by unfold Addr.add; split <;> simp_all
  rwa [e2] at this
theorem cells_encs (l : List UInt8) : Lib.byteCells l = encs (Value.int .u8) (ofB l) := by
  simp [Lib.byteCells, encs, ofB]
theorem R_of_Own {w w' : World} {v : Value} {l : List UInt8} (h : Own w.heap.size v l w') : (Kd.int .u8).R 5 w' w.heap.size (fun k_ => w.heap.size ≤ k_) v (ofB l) := by
  refine Kd.R_of_own (h1 := fun _ => rfl) ?_ ?_
  · have h' : w'.ownsRow w.heap.size 5 1 v l.length (Lib.byteCells l) := h
    rw [cells_encs] at h'
    rwa [ofB_len]
  · intro k hk
    rcases h.2 with ⟨hv, _⟩ | ⟨g, cap, cur, hv, hg, _⟩
    · rw [hv] at hk; simp [Value.ownBlock] at hk
    · rw [hv] at hk
      simp [Value.ownBlock] at hk
      omega
end Go.Proofs.YtlhpncpihbpkoaaDoor
