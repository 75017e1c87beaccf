/- DiskTrips: the plain law. -/
import Derived.Test.YtnplcfgjidolbaaDiskKnown
import Derived.Test.YtnplcfgjidolbaaRow
namespace Go.Proofs.Ytnplcfgjidolbaa
open Go.RowKit Go.Maps

/-- A cell of 16 bits. -/
def f16 (n : Nat) : Value := .int .u16 (n : Int)
theorem of_wf16 {z : Int} (h : (Lit.int .u16 z).wf = true) : ∃ n : Nat, z = (n : Int) ∧ n < 65536 := by
  have h1 : 0 ≤ z ∧ z ≤ 65535 := by
    have := h; simp [Lit.wf, IntKind.min, IntKind.max, IntKind.signed, IntKind.bits] at this; omega
  exact ⟨z.toNat, by omega, by omega⟩
theorem of_wf8' {z : Int} (h : (Lit.int .u8 z).wf = true) : ∃ n : Nat, z = (n : Int) ∧ n < 256 := by
  have h1 : 0 ≤ z ∧ z ≤ 255 := by
    have := h; simp [Lit.wf, IntKind.min, IntKind.max, IntKind.signed, IntKind.bits] at this; omega
  exact ⟨z.toNat, by omega, by omega⟩
theorem IsRow.sl16 {w : World} {a : Option Addr} {len cap : Nat} {zs : List Int} (h : IsRow .u16 w a len cap zs) (hlen : len ≤ 140737488355328) :
    ∃ l : List Nat, l.length = len ∧ SlC 0 w.heap.size f16 w a cap l ∧ ∀ x ∈ l, x < 65536 := by
  rcases h with ⟨rfl, rfl, rfl, rfl⟩ | ⟨x, rfl, hlc, hm, hz, hcell, hwf⟩
  · exact ⟨[], rfl, ⟨by simp, fun _ => rfl, fun h => absurd rfl h, by simp⟩, by simp⟩
  · refine ⟨(zs.take len).map (fun z => z.toNat), by simp; omega, ⟨by simp; omega, (fun h => by cases h), fun hne => ?_, by simp; omega⟩, fun x hx => ?_⟩
    · have h0 : 0 < zs.length := by
        rcases Nat.eq_zero_or_pos zs.length with h | h
        · rw [List.length_eq_zero_iff] at h; subst h; simp at hne
        · exact h
      obtain ⟨b, off, rfl, hc⟩ := ints_at hcell h0
      refine ⟨b, off, rfl, Nat.zero_le _, block_lt_of_cell (hc 0 h0), fun j hj => ?_⟩
      have hj' : j < zs.length := by simp at hj; omega
      rw [hc j hj']
      have e : zs.getD j 0 = zs[j] := by simp [List.getD, hj']
      rw [e]
      obtain ⟨n, h1, _⟩ := of_wf16 (hwf _ (List.getElem_mem hj'))
      simp only [List.getElem_map, List.getElem_take, f16]
      rw [h1]
      simp
    · obtain ⟨z, hz1, rfl⟩ := List.mem_map.1 hx
      obtain ⟨n, h1, h2⟩ := of_wf16 (hwf z (List.mem_of_mem_take hz1))
      omega

/-- The writes of the first i numbers. -/
def acts (m : Nat) (l : List Nat) (i : Nat) : List (Nat × List UInt8) := (l.take i).map fun v => (v % m, List.replicate 256 (UInt8.ofNat (v / 256)))
theorem acts_succ (m : Nat) (l : List Nat) (i : Nat) (h : i < l.length) : acts m l (i + 1) = acts m l i ++ [(l[i] % m, List.replicate 256 (UInt8.ofNat (l[i] / 256)))] := by
  unfold acts
  rw [List.take_succ_eq_append_getElem h, List.map_append]
  rfl
theorem acts_len (m : Nat) (l : List Nat) (i : Nat) (h : i ≤ l.length) : (acts m l i).length = i := by unfold acts; rw [List.length_map, List.length_take]; omega
/-- The disk behind i writes, its trip t. -/
def trips (m t : Nat) (l : List Nat) (i : Nat) : Dsk :=
  if i ≤ t then ⟨List.replicate m (List.replicate 256 0), acts m l i, false, (t : Int) - (i : Int), 0, i, 0⟩ else ⟨List.replicate m (List.replicate 256 0), acts m l t, true, -1, 0, t, 0⟩
theorem trips_start (m t : Nat) (l : List Nat) : (newDsk m).tripped t = (trips m t l 0, 0) := by
  unfold Dsk.tripped trips
  rw [if_neg (by omega), if_neg (show ¬ ((newDsk m).dark = true) from (show ¬ (false = true) by decide)), if_pos (Nat.zero_le _), show (t : Int) - ((0 : Nat) : Int) = t from by omega]
  rfl
theorem trips_cs (m t : Nat) (l : List Nat) (i : Nat) : (trips m t l i).cs = acts m l (min i t) := by
  unfold trips
  split
  · rw [Nat.min_eq_left (by assumption)]
  · rw [Nat.min_eq_right (by omega)]
theorem trips_ls (m t : Nat) (l : List Nat) (i : Nat) : (trips m t l i).ls = List.replicate m (List.replicate 256 0) := by unfold trips; split <;> rfl
theorem trips_wr (m t : Nat) (l : List Nat) (i : Nat) : (trips m t l i).wr = ((min i t : Nat) : Int) := by
  unfold trips
  split
  · rw [Nat.min_eq_left (by assumption)]
  · rw [Nat.min_eq_right (by omega)]
theorem trips_rd (m t : Nat) (l : List Nat) (i : Nat) : (trips m t l i).rd = 0 ∧ (trips m t l i).fl = 0 := by unfold trips; split <;> exact ⟨rfl, rfl⟩
theorem trips_dark (m t : Nat) (l : List Nat) (i : Nat) : (trips m t l (i + 1)).dark = decide (t ≤ i) := by
  unfold trips
  split
  · exact (decide_eq_false (by omega)).symm
  · exact (decide_eq_true (by omega)).symm
theorem trips_small (m t : Nat) (l : List Nat) (i : Nat) (hm : m ≤ 100) (ht : t ≤ 100) (hi : i ≤ l.length) : Small (trips m t l i) := by
  have h1 := trips_ls m t l i
  have h2 := trips_cs m t l i
  have h3 := trips_wr m t l i
  have h4 := trips_rd m t l i
  have h5 := acts_len m l (min i t) (by omega)
  refine ⟨by rw [h1, List.length_replicate]; omega, by rw [h2, h5]; omega, ?_, by rw [h4.1]; omega, by rw [h3]; omega, by rw [h4.2]; omega⟩
  unfold trips
  split
  · show (t : Int) - (i : Int) ≤ 9223372036854775807; omega
  · show (-1 : Int) ≤ 9223372036854775807; omega
theorem trips_put (m t : Nat) (l : List Nat) (i : Nat) (hm : 0 < m) (h : i < l.length) : (trips m t l i).put ((l[i] % m : Nat) : Int) (List.replicate 256 (UInt8.ofNat (l[i] / 256))) = (trips m t l (i + 1), if i < t then 0 else 4) := by
  have hmod := Nat.mod_lt l[i] hm
  rw [put_eq]
  by_cases hlt : i < t
  · have hb : (trips m t l i).begins = ({ (trips m t l i) with trip := (t : Int) - ((i + 1 : Nat) : Int) }, true) := by
      unfold trips
      rw [if_pos (by omega)]
      unfold Dsk.begins
      rw [if_neg (show ¬ (false = true) by decide), if_neg (show ¬ ((t : Int) - (i : Int) = 0) by omega), if_pos (show 0 < (t : Int) - (i : Int) by omega)]
      have e : (t : Int) - (i : Int) - 1 = (t : Int) - ((i + 1 : Nat) : Int) := by omega
      rw [← e]
    rw [hb, if_neg (show ¬ (true = false) by decide), if_pos hlt]
    have e1 : trips m t l i = ⟨List.replicate m (List.replicate 256 0), acts m l i, false, (t : Int) - (i : Int), 0, i, 0⟩ := by unfold trips; rw [if_pos (by omega)]
    have e2 : trips m t l (i + 1) = ⟨List.replicate m (List.replicate 256 0), acts m l (i + 1), false, (t : Int) - ((i + 1 : Nat) : Int), 0, ((i + 1 : Nat) : Int), 0⟩ := by unfold trips; rw [if_pos (by omega)]
    rw [e1, e2, acts_succ m l i h]
    unfold Dsk.puts
    rw [if_neg (show ¬ (((l[i] % m : Nat) : Int) < 0 ∨ (((List.replicate m (List.replicate 256 (0 : UInt8))).length : Nat) : Int) ≤ ((l[i] % m : Nat) : Int)) by rw [List.length_replicate]; omega), if_neg (by rw [List.length_replicate]; omega)]
    have e3 : (((l[i] % m : Nat) : Int)).toNat = l[i] % m := Int.toNat_natCast _
    have e4 : ((i + 1 : Nat) : Int) = (i : Int) + 1 := by omega
    rw [e3, e4]
  · have hb : (trips m t l i).begins = (trips m t l (i + 1), false) := by
      unfold trips
      rw [if_neg (show ¬ i + 1 ≤ t by omega)]
      by_cases he : i = t
      · subst he
        rw [if_pos (Nat.le_refl _)]
        unfold Dsk.begins
        rw [if_neg (show ¬ (false = true) by decide), if_pos (show (i : Int) - (i : Int) = 0 by omega)]
      · rw [if_neg (by omega)]
        unfold Dsk.begins
        rw [if_pos rfl]
    rw [hb, if_pos rfl, if_neg hlt]
theorem settled_none (ls : List (List UInt8)) (cs : List (Nat × List UInt8)) : settled ls cs (fun i => ([] : List Bool).getD i false) = ls := by
  have key : ∀ (l : List ((Nat × List UInt8) × Nat)) (ls : List (List UInt8)), l.foldl (fun ls p => if ([] : List Bool).getD p.2 false then ls.set p.1.1 p.1.2 else ls) ls = ls := by
    intro l
    induction l with
    | nil => intro ls; rfl
    | cons p l ih => intro ls; rw [List.foldl_cons]; simp only [List.getD_nil, Bool.false_eq_true, if_false]; simpa using ih ls
  exact key _ ls
end Go.Proofs.Ytnplcfgjidolbaa
