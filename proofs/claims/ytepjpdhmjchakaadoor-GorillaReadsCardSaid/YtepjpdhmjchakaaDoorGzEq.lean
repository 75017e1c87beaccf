/- bytes as a string; bytes.Equal. -/
import Derived.Test.YtepjpdhmjchakaaDoorSame
import Derived.Laws.BytesArg
import Derived.Lib.Bytes
namespace Go.Proofs.YtepjpdhmjchakaaDoor
open Go.RowKit

/-- A list of bytes as a string's bytes. -/
def strB (l : List UInt8) : ByteArray := ⟨l.toArray⟩
theorem strB_inj {l l' : List UInt8} (h : strB l = strB l') : l = l' := by
  have := congrArg (fun b : ByteArray => b.data.toList) h
  simpa [strB] using this
theorem strB_list (l : List UInt8) : (strB l).toList = l := by
  rw [Lib.toList_data]; rfl
theorem conv_sl {lo hi : Nat} {w : World} {ao : Option Addr} {cap : Nat} {l : List UInt8} (h : SlC lo hi f8 w ao cap l) :
    (convert 71 9 (.slice ao l.length cap)).run Tryd.prog w = .ok (.string (strB l)) w := by
  cases hl : l with
  | nil =>
    rw [List.length_nil, run_convert_bytes_string w 71 9 5 _ 0 cap Tryd.underlying71 Tryd.underlying5 Tryd.underlying9]
    cases ao <;> simp [Conv.bytesToString, loadCells]
    all_goals rfl
  | cons a r =>
    obtain ⟨b, off, rfl, _, _, hc⟩ := h.cells (by rw [hl]; simp)
    rw [← hl]
    have this := run_convert_bytes_arg (P := Tryd.prog) w 71 5 Tryd.underlying71 Tryd.underlying5 b off l.length cap (l.map fun x => (x.toNat : Int)) (by simp) (fun i hi => by
      rw [hc i hi]
      simp [List.getD, hi, f8, W8]) 9 Tryd.underlying9
    rw [this]
    suffices e : strOfNums (l.map fun x => (x.toNat : Int)) = strB l by rw [e]
    unfold strB
    apply ByteArray.ext
    apply Array.toList_inj.1
    rw [strOfNums_data, List.map_map]
    conv => rhs; rw [← List.map_id l]
    apply List.map_congr_left
    intro x _
    simp

theorem equal_any (lo hi lo' hi' : Nat) (w : World) (v v' : Value) (l l' : List UInt8) (hv : Sl lo hi f8 w v l) (hv' : Sl lo' hi' f8 w v' l') :
    Calls Tryd.prog 96 #[v, v'] w fun e w' => e = .returned (.bool (sameB l l')) ∧ w' = w := by
  obtain ⟨ao, cap, rfl, hv⟩ := hv
  obtain ⟨ao', cap', rfl, hv'⟩ := hv'
  have k1 := conv_sl hv
  have k2 := conv_sl hv'
  go_enter Tryd.func96, Tryd.ntmps96
  go_wp2
  go_ret
  refine ⟨?_, rfl⟩
  show Ending.returned (Value.bool ((strB l).toList == (strB l').toList)) = _
  rw [strB_list, strB_list]
  unfold sameB
  by_cases e : l = l'
  · subst e; simp
  · simp [e]
end Go.Proofs.YtepjpdhmjchakaaDoor
