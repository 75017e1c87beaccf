/- From a slice's reading as the row has it to its bytes. -/
import Derived.Test.YtckmeomhcikmoaaMem
import Derived.ProofKit
import Derived.OpenShut
namespace Go.Proofs.Ytckmeomhcikmoaa
open Go.RowKit

/-- What the walk is told of a slice of integers that came in. -/
def IsRow (k : IntKind) (w : World) (a : Option Addr) (len cap : Nat) (zs : List Int) : Prop :=
  (a = none ∧ len = 0 ∧ cap = 0 ∧ zs = []) ∨
  ∃ x, a = some x ∧ len ≤ cap ∧ cap ≤ maxLen ∧ zs.length = cap ∧ (∀ i, i < zs.length → w.cell? (x.add i) = some (.int k (zs.getD i 0))) ∧ ∀ n ∈ zs, (Lit.int k n).wf = true

theorem of_wf8 {z : Int} (h : (Lit.int .u8 z).wf = true) : W8 (UInt8.ofNat z.toNat) = z := by
  have h1 : 0 ≤ z ∧ z ≤ 255 := by
    have := h; simp [Lit.wf, IntKind.min, IntKind.max, IntKind.signed, IntKind.bits] at this; omega
  unfold W8
  rw [UInt8.toNat_ofNat']
  omega
theorem of_wf32 {z : Int} (h : (Lit.int .u32 z).wf = true) : ∃ s : BitVec 32, z = W32 s := by
  have h1 : 0 ≤ z ∧ z ≤ 4294967295 := by
    have := h; simp [Lit.wf, IntKind.min, IntKind.max, IntKind.signed, IntKind.bits] at this; omega
  refine ⟨BitVec.ofNat 32 z.toNat, ?_⟩
  unfold W32
  rw [BitVec.toNat_ofNat]
  omega

theorem IsRow.sl {w : World} {a : Option Addr} {len cap : Nat} {zs : List Int} (h : IsRow .u8 w a len cap zs) (hlen : len ≤ 140737488355328) :
    ∃ l : List UInt8, l.length = len ∧ SlC 0 w.heap.size f8 w a cap l := by
  rcases h with ⟨rfl, rfl, rfl, rfl⟩ | ⟨x, rfl, hlc, hm, hz, hcell, hwf⟩
  · exact ⟨[], rfl, by simp, fun _ => rfl, fun h => absurd rfl h, by simp⟩
  · refine ⟨(zs.take len).map (fun z => UInt8.ofNat z.toNat), by simp; omega, by simp; omega, (fun h => by cases h), fun hne => ?_, by simp; omega⟩
    have h0 : 0 < zs.length := by
      rcases Nat.eq_zero_or_pos zs.length with h | h
      · rw [List.length_eq_zero_iff] at h; subst h; simp at hne
      · exact h
    obtain ⟨b, off, rfl, hc⟩ := ints_at hcell h0
    refine ⟨b, off, rfl, Nat.zero_le _, block_lt_of_cell (hc 0 h0), fun j hj => ?_⟩
    have hj' : j < zs.length := by simp at hj; omega
    rw [hc j hj']
    have e : zs.getD j 0 = zs[j] := by simp [List.getD, hj']
    rw [e]
    simp only [List.getElem_map, List.getElem_take, f8]
    rw [of_wf8 (hwf _ (List.getElem_mem hj'))]
end Go.Proofs.Ytckmeomhcikmoaa
