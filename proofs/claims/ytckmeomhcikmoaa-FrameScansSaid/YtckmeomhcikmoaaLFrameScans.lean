/- The law FrameScans returns true for every input and leaves its arguments as they were. No condition. -/
import Derived.Test.YtckmeomhcikmoaaRows
import Derived.WalkKit
import Derived.ProofKit
import Derived.OpenShut
import Derived.ShutString
import Derived.ChangeOld
import Derived.Below
import Derived.SizedLaws
import Derived.Test.YtckmeomhcikmoaaWFrameScans
import Derived.Test.YtckmeomhcikmoaaRows2
namespace Go.Proofs.Ytckmeomhcikmoaa.frameScans
open Go.ChangeShapes Go.WideShapes Go.ChangeAt Go.RowKit Go.Deep
open Go.ChangeMaps (open_string shut_string)
set_option linter.unusedVariables false

theorem own : ownKnob Try.prog.godebug = none := by kernel_rfl
theorem laidOut : laidOutB Try.prog = true := by kernel_rfl
theorem bytes23 : Try.prog.bytesOf 23 = 24 := by kernel_rfl
theorem bytes5 : Try.prog.bytesOf 5 = 1 := by kernel_rfl

set_option maxRecDepth 100000 in
theorem lifted (os : Os) (started : os.Started) (H : Type) (enc : TypeId × Value → H) :
    ReturnsInHanded {} Try.checked os 8 .any (Rows.frameScansSpec.pre6 enc Try.prog Try.f8 Rows.frameScansRow.domain false) (Rows.frameScansSpec.post enc Try.prog Try.f8 false true false false) := by
  refine returnsInHanded_of_change_sized (C := Try.checked) own started (by kernel_rfl) Try.func8
    (ChangeSpec.witness6 (enc := enc) (C := Try.checked) false ⟨#[], #[.int .u32 0, .slice none 0 0], []⟩ 8 (by kernel_rfl) (by kernel_rfl) (by kernel_rfl) (by kernel_rfl)) ?_
  intro W base args ds gs before hval0 hW hcnd hsz0 _
  have hsz : (DataW.weightsEach Try.prog (Try.f8.params.toList ++ Rows.frameScansSpec.plain.varTypes Try.prog) (ds ++ gs)).all (· ≤ reachBytes) = true := hsz0
  clear hsz0
  have hval : ∀ (j : Nat) t v, Try.f8.params[j]? = some t → args[j]? = some v → Value.okWide Try.prog W .any base t v := hval0
  have hW' := hW
  obtain ⟨p, q, hA0, hV, rfl, hfz, hnd⟩ := hW
  have hA : DataW.TrodAll enc Try.prog W 0 (fun _ => true) true Try.f8.params.toList args.toList ds p := hA0
  rw [Try.params8] at hA hval hsz
  obtain ⟨v0, vs0, d0, ds0, p0, q0, hargs, rfl, rfl, h0, r0⟩ := trodAll_cons hA
  obtain ⟨v1, vs1, d1, ds1, p1, q1, rfl, rfl, rfl, h1, r1⟩ := trodAll_cons r0
  obtain ⟨rfl, rfl, rfl⟩ := trodAll_nil r1
  obtain rfl : args = #[v0, v1] := by cases args; simp_all
  obtain ⟨rfl, rfl⟩ := trodVars_none hV
  simp only [List.append_nil] at hsz
  obtain ⟨a0, rfl, rfl, rfl, w0⟩ := open_int Try.underlying22 (hval 0 22 v0 rfl rfl) h0
  obtain ⟨a1, len1, cap1, rfl⟩ := okWide_slice Try.underlying30 (hval 1 30 v1 rfl rfl)
  have k1 := h1
  have lt1 : ∀ x ∈ p1, x.block < W.heap.size := by obtain ⟨m, hm⟩ := k1; exact DataW.trod_lt m _ _ _ hm
  obtain ⟨rows1, w1⟩ : ∃ rows, Rws 0 W.heap.size W (.slice a1 len1 cap1) rows := by
    obtain ⟨fuel, hf⟩ := h1
    rcases open_int_rows Try.underlying30 Try.underlying23 Try.underlying5 (by kernel_rfl) (by kernel_rfl) hf with ⟨hcs, _⟩ | ⟨x, l, c, A, L, C, Z, hcs, _, hl, hm, hx, hcell⟩
    · simp [Value.cells] at hcs
      obtain ⟨rfl, rfl, rfl⟩ := hcs
      exact ⟨[], [], rfl, Sl.nil _ _ _ _, fun r h => absurd h (by simp)⟩
    · simp [Value.cells] at hcs
      obtain ⟨rfl, rfl, rfl⟩ := hcs
      have hd := congrArg Prod.fst hx
      have hb := sized_slice hsz (j := 1) (t := 30) (e := 23) rfl (congrArg some hd) Try.underlying30
      have hlen : len1 ≤ 140737488351232 := by
        rw [bytes23] at hb
        simp only [List.length_map, List.length_range, reachBytes] at hb
        omega
      refine rows_in hl hlen (fun r hr => ⟨(hcell r hr).1, (hcell r hr).2.1, (hcell r hr).2.2.1, (hcell r hr).2.2.2.1, (hcell r hr).2.2.2.2.1, (hcell r hr).2.2.2.2.2.1, fun a' ha c hc => ((hcell r hr).2.2.2.2.2.2 a' ha).2 c hc⟩) (fun r hr => ?_)
      have hr' : r < cap1 := Nat.lt_of_lt_of_le hr hl
      cases hA' : A r with
      | none => have h5 := (hcell r hr').2.2.2.2.2.1 hA'; have h6 := (hcell r hr').2.1; omega
      | some a' =>
        have hmem : (DataW.slice (lits .u8 ((Z r).take (L r))) (lits .u8 ((Z r).drop (L r))) : DataW H) ∈ (List.range len1).map fun r => intRow .u8 (A r) (L r) (Z r) := by
          refine List.mem_map.2 ⟨r, List.mem_range.2 hr, ?_⟩
          simp only [intRow, hA']
        have hin := sized_inner hsz (j := 1) (t := 30) (e := 23) (q := 5) rfl (congrArg some hd) Try.underlying30 Try.underlying23 hmem
        rw [bytes5] at hin
        have h6 := (hcell r hr').2.1
        have h7 := (hcell r hr').2.2.2.1
        simp only [lits, List.length_map, List.length_take, List.length_drop, reachBytes] at hin
        omega
  clear hA0 hval0
  refine (walk a0 _ rows1 W w0 w1).mono fun e W' ⟨he, bel⟩ => ?_
  subst he
  exact ⟨_, rfl, _, _, _, [], _, [], hW', trodAll_mk1 (shut_bool Try.underlying4 _), (trodAll_cons_mk (shut_int Try.underlying22 w0) (trodAll_cons_mk (Below.trod laidOut (by kernel_rfl) (of_decide_eq_true (by kernel_rfl)) k1 bel lt1) trodAll_mk0)), rfl, bel.frame _, fun h => by cases h⟩

theorem over : Rows.frameScansRow.holds Try.pinned (OpenSpec.ofChange Rows.frameScansSpec) :=
  OpenClaim.holds_of_wide 8 Try.f8 rfl rfl rfl rfl rfl rfl rfl ⟨rfl, rfl, rfl, rfl, rfl⟩ rfl rfl rfl rfl rfl (by kernel_rfl) Try.func8 (by kernel_rfl)
    (of_decide_eq_true (by kernel_rfl)) (by unfold Func.isWrapper; first | (rw [if_pos (by decide +kernel)]; kernel_rfl) | (rw [if_neg (by decide +kernel)]; exact ⟨rfl, rfl⟩))
    (fun os started H enc _ => lifted os started H enc)

/-- The given statement. -/
theorem proved : Rows.FrameScansSaid := over
#print axioms proved
end Go.Proofs.Ytckmeomhcikmoaa.frameScans
