/- The walk of FrameOthers. No condition. -/
import Derived.Test.YtckmeomhcikmoaaFrKnown
import Derived.Test.YtckmeomhcikmoaaRow
namespace Go.Proofs.Ytckmeomhcikmoaa.frameOthers
open Go.RowKit
set_option maxRecDepth 100000
set_option maxHeartbeats 4000000

theorem walk (a0 : Int) (a1 : Int) (a2 : Int) (v3 : Value) (l3 : List UInt8) (w : World) (w0 : (Lit.int .u32 a0).wf = true) (w1 : (Lit.int .u32 a1).wf = true) (w2 : (Lit.int .u8 a2).wf = true) (w3 : Sl 0 w.heap.size f8 w v3 l3) :
    Calls Try.prog 11 #[.int .u32 a0, .int .u32 a1, .int .u8 a2, v3] w fun e w' => e = .returned (.bool true) ∧ Below w.heap.size w w' := by
  obtain ⟨seg, rfl⟩ := of_wf32 w0
  obtain ⟨oth, rfl⟩ := of_wf32 w1
  obtain ⟨A, rfl, hA⟩ : ∃ A : Nat, a2 = (A : Int) ∧ A < 256 := by
    have := w2; simp [Lit.wf, IntKind.min, IntKind.max, IntKind.signed, IntKind.bits] at this; exact ⟨a2.toNat, by omega, by omega⟩
  obtain ⟨ao, cap, rfl, hv⟩ := w3
  have HV := Lib.hid (show Sl 0 w.heap.size f8 w (.slice ao l3.length cap) l3 from ⟨_, _, rfl, hv⟩)
  clear w0 w1 w2 hv
  by_cases hlen : 2000 < l3.length
  · have i1 : (2000 : Int) < (l3.length : Int) := by omega
    go_enter Try.func11, Try.ntmps11
    go_wp2_with (go_at_call 23; refine (frKnown_any _).mono ?_; rintro e w1 ⟨rfl, hb1⟩)
    go_ret
    exact ⟨rfl, hb1⟩
  have i1 : ¬ (2000 : Int) < (l3.length : Int) := by omega
  have hcn : Fr.cnt l3 ≤ 9 := by unfold Fr.cnt; omega
  have hsp : Fr.splitW oth ((A : Int) % 20) l3 = (Fr.splitL oth (A % 20) l3, 0) := by
    rw [show (A : Int) % 20 = ((A % 20 : Nat) : Int) from by omega]
    exact Fr.splitW_ok (by omega) (by omega)
  have hscan := Fr.scan_others seg oth (A % 20) l3 (by omega) (by omega)
  obtain ⟨c, hc⟩ : ∃ c, c = Fr.cnt l3 := ⟨_, rfl⟩
  have hrows : (Fr.splitL oth (A % 20) l3).length = c := by rw [Fr.splitL_len, hc]
  have hrl : ∀ r ∈ Fr.splitL oth (A % 20) l3, r.length ≤ 140737488355328 := fun r hr => by
    rw [Fr.splitL, List.mem_map] at hr
    obtain ⟨i, _, rfl⟩ := hr
    rw [Fr.one_len]; decide
  have hc9 : c ≤ 9 := by omega
  have HSP := Lib.hid hsp
  have HRL := Lib.hid hrl
  have HRW := Lib.hid hrows
  rw [← hc] at hscan
  clear hsp hrl hrows hcn hc
  have hcase : (seg = oth ∧ A % 20 = 0 ∧ ((A : Int) % 20 == 0) = true) ∨ (seg = oth ∧ A % 20 ≠ 0 ∧ ((A : Int) % 20 == 0) = false) ∨ (seg ≠ oth ∧ (W32 seg == W32 oth) = false) := by
    by_cases h1 : seg = oth
    · by_cases h2 : A % 20 = 0
      · exact .inl ⟨h1, h2, by simp; omega⟩
      · exact .inr (.inl ⟨h1, h2, by simp; omega⟩)
    · exact .inr (.inr ⟨h1, by simp; exact fun e => h1 (W32_inj e)⟩)
  rcases hcase with ⟨h1, h2, h3⟩ | ⟨h1, h2, h3⟩ | ⟨h1, h3⟩
  · rw [if_pos ⟨h1, h2⟩] at hscan
    subst h1
    have HSC := Lib.hid hscan
    clear hscan h2
    have s0 := sum0
    go_enter Try.func11, Try.ntmps11
    go_wp2_with fail
    refine (frKnown_any _).mono ?_
    rintro e w1 ⟨rfl, hb1⟩
    have HB1 := Lib.hid hb1
    clear hb1
    go_wp2_with fail
    refine Calls.mono (split_at 0 w.heap.size w1 _ seg (by rfl) _ (by omega) _ l3 (by exact HV.out.below HB1.out (Nat.le_refl _)) HB1.out.size _ _ HSP.out) ?_
    rintro e w2 ⟨u2, vs2, rfl, hr2, hb2⟩
    have hl2 : vs2.length = c := by rw [hr2.len]; exact HRW.out
    obtain ⟨a2, c2, hu2⟩ := own_slice hr2.row
    rw [hl2] at hu2
    have HR2 := Lib.hid (hr2.rws (by rw [HRW.out]; omega) HRL.out)
    have HB2 := Lib.hid (HB1.out.trans (hb2.mono HB1.out.size))
    subst hu2
    clear hr2 hb2 hl2
    go_wp2_with fail
    refine Calls.mono (scan_at w1.heap.size w2.heap.size w2 _ seg (by rfl) _ _ HR2.out (by rw [HRW.out]; omega) (Nat.le_refl _) _ _ HSC.out) ?_
    rintro e w3 ⟨u3, vs3, rfl, hr3, hb3⟩
    have hl3 : vs3.length = 1 := by rw [hr3.len]; rfl
    obtain ⟨a3, c3, hu3⟩ := own_slice hr3.row
    rw [hl3] at hu3
    subst hu3
    have HB3 := Lib.hid (HB2.out.trans (hb3.mono HB2.out.size))
    clear hr3 hb3 hl3
    go_wp2_with (go_at_call 17; refine (rsum_any 0 0 _ _ _ (Sl.nil _ _ _ _)).mono ?_; rintro e w4 ⟨rfl, rfl⟩)
    go_ret
    exact ⟨rfl, HB3.out⟩
  · rw [if_neg (fun e => h2 e.2)] at hscan
    subst h1
    have HSC := Lib.hid hscan
    clear hscan h2
    have s0 := sum0
    go_enter Try.func11, Try.ntmps11
    go_wp2_with fail
    refine (frKnown_any _).mono ?_
    rintro e w1 ⟨rfl, hb1⟩
    have HB1 := Lib.hid hb1
    clear hb1
    go_wp2_with fail
    refine Calls.mono (split_at 0 w.heap.size w1 _ seg (by rfl) _ (by omega) _ l3 (by exact HV.out.below HB1.out (Nat.le_refl _)) HB1.out.size _ _ HSP.out) ?_
    rintro e w2 ⟨u2, vs2, rfl, hr2, hb2⟩
    have hl2 : vs2.length = c := by rw [hr2.len]; exact HRW.out
    obtain ⟨a2, c2, hu2⟩ := own_slice hr2.row
    rw [hl2] at hu2
    have HR2 := Lib.hid (hr2.rws (by rw [HRW.out]; omega) HRL.out)
    have HB2 := Lib.hid (HB1.out.trans (hb2.mono HB1.out.size))
    subst hu2
    clear hr2 hb2 hl2
    go_wp2_with fail
    refine Calls.mono (scan_at w1.heap.size w2.heap.size w2 _ seg (by rfl) _ _ HR2.out (by rw [HRW.out]; omega) (Nat.le_refl _) _ _ HSC.out) ?_
    rintro e w3 ⟨u3, vs3, rfl, hr3, hb3⟩
    have hl3 : vs3.length = 0 := by rw [hr3.len]; rfl
    obtain ⟨a3, c3, hu3⟩ := own_slice hr3.row
    rw [hl3] at hu3
    subst hu3
    have HB3 := Lib.hid (HB2.out.trans (hb3.mono HB2.out.size))
    clear hr3 hb3 hl3
    go_wp2_with (go_at_call 17; refine (rsum_any 0 0 _ _ _ (Sl.nil _ _ _ _)).mono ?_; rintro e w4 ⟨rfl, rfl⟩)
    go_ret
    exact ⟨rfl, HB3.out⟩
  · rw [if_neg (fun e => h1 e.1)] at hscan
    have HSC := Lib.hid hscan
    clear hscan h1
    have s0 := sum0
    go_enter Try.func11, Try.ntmps11
    go_wp2_with fail
    refine (frKnown_any _).mono ?_
    rintro e w1 ⟨rfl, hb1⟩
    have HB1 := Lib.hid hb1
    clear hb1
    go_wp2_with fail
    refine Calls.mono (split_at 0 w.heap.size w1 _ oth (by rfl) _ (by omega) _ l3 (by exact HV.out.below HB1.out (Nat.le_refl _)) HB1.out.size _ _ HSP.out) ?_
    rintro e w2 ⟨u2, vs2, rfl, hr2, hb2⟩
    have hl2 : vs2.length = c := by rw [hr2.len]; exact HRW.out
    obtain ⟨a2, c2, hu2⟩ := own_slice hr2.row
    rw [hl2] at hu2
    have HR2 := Lib.hid (hr2.rws (by rw [HRW.out]; omega) HRL.out)
    have HB2 := Lib.hid (HB1.out.trans (hb2.mono HB1.out.size))
    subst hu2
    clear hr2 hb2 hl2
    go_wp2_with fail
    refine Calls.mono (scan_at w1.heap.size w2.heap.size w2 _ seg (by rfl) _ _ HR2.out (by rw [HRW.out]; omega) (Nat.le_refl _) _ _ HSC.out) ?_
    rintro e w3 ⟨u3, vs3, rfl, hr3, hb3⟩
    have hl3 : vs3.length = 0 := by rw [hr3.len]; rfl
    obtain ⟨a3, c3, hu3⟩ := own_slice hr3.row
    rw [hl3] at hu3
    subst hu3
    have HB3 := Lib.hid (HB2.out.trans (hb3.mono HB2.out.size))
    clear hr3 hb3 hl3
    go_wp2_with (go_at_call 17; refine (rsum_any 0 0 _ _ _ (Sl.nil _ _ _ _)).mono ?_; rintro e w4 ⟨rfl, rfl⟩)
    go_ret
    exact ⟨rfl, HB3.out⟩
end Go.Proofs.Ytckmeomhcikmoaa.frameOthers
