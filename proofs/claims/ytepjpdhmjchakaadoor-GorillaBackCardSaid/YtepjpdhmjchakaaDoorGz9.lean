/- rising: the walk. -/
import Derived.Test.YtepjpdhmjchakaaDoorGzRise
import Derived.Test.YtepjpdhmjchakaaDoorGzOwn
namespace Go.Proofs.YtepjpdhmjchakaaDoor
open Go.RowKit
set_option linter.unusedVariables false

theorem infoSm : (Tryd.prog.info? 70).map (fun i => (i.zero, i.size, i.bytes)) = some (some (.agg #[.int .i64 0, .int .u64 0]), 2, 16) := by kernel_rfl
/-- A turn's time. -/
theorem rise_pos (t x : Int) (ht : -Gz.far ≤ t ∧ t ≤ Gz.far) (hx : 0 ≤ x) : wrap64 (t + wrap64 (Int.tmod x 4398046511104 + 1)) = t + (x % 4398046511104 + 1) := by
  rw [Int.tmod_eq_emod_of_nonneg hx]
  unfold Gz.far at ht
  unfold wrap64
  omega
theorem rise_pos' (t x : Int) (ht : -Gz.far ≤ t ∧ t ≤ Gz.far) : wrap64 (t + (x % 4398046511104 + 1)) = t + (x % 4398046511104 + 1) := by
  unfold Gz.far at ht
  unfold wrap64
  omega
theorem rise_neg (t x : Int) (ht : -Gz.far ≤ t ∧ t ≤ Gz.far) (hx : x < 0) : wrap64 (t + wrap64 (-(Int.tmod (x + 1) 4398046511104) + 1)) = t + (-(x + 1) % 4398046511104 + 1) := by
  rw [← Int.neg_tmod]
  exact rise_pos t _ ht (by omega)

set_option maxHeartbeats 1000000 in
set_option maxRecDepth 100000 in
theorem rising_any (w : World) (ao : Option Addr) (cap : Nat) (l : List Gz.Smp) (h : Sms w.heap.size w ao cap l) :
    Calls Tryd.prog 16 #[.slice ao l.length cap] w fun e w' => ∃ v, e = .returned v ∧ w'.ownsRow w.heap.size 70 2 v (Gz.rise l).length (smCs (Gz.rise l)) ∧ Below w.heap.size w w' := by
  obtain ⟨i0, hi0, hz0, hz1, hz2⟩ := info_parts infoSm
  have H := Lib.hid h
  clear h
  go_enter Tryd.func16, Tryd.ntmps16
  go_wp2
  go_loopw [3, 4, 5] (fun o t i wr => ∃ k : Nat, k ≤ (l.take 2000).length ∧ i = .int .i64 k ∧ t = .int .i64 (Gz.riseFrom (l.take k)).1 ∧ wr.ownsRow w.heap.size 70 2 o k (smCs (Gz.riseFrom (l.take k)).2) ∧ Below w.heap.size w wr) (fun _ _ i _ => l.length - (intOf i).toNat)
  case atStart => exact ⟨0, Nat.zero_le _, rfl, rfl, World.ownsRow_nil _ _ _ _, Below.refl _ _⟩
  case round =>
    obtain ⟨k, hk, rfl, rfl, hown, hbel⟩ := hrel
    have HO := Lib.hid hown
    have HB := Lib.hid hbel
    have hsz := hbel.size
    have hll := H.out.len
    have hR := Gz.rise_at (l.take k).length (l.take k) rfl (by simp at hk ⊢; omega) (fun s hs => (H.out.fits s (List.mem_of_mem_take hs)).2)
    rw [show (l.take k).length = k by simp at hk ⊢; omega] at hR
    have ht1 := hR.lo
    have ht2 := hR.hi
    have ht3 := hR.len
    clear hown hbel
    by_cases h1 : k < l.length
    · by_cases h2 : k < 2000
      · have hsucc : Gz.riseFrom (l.take (k + 1)) = Gz.riseStep (Gz.riseFrom (l.take k)) l[k] := by rw [List.take_succ_eq_append_getElem h1, Gz.riseFrom_snoc]
        obtain ⟨b, off, rfl, hbl, hcell⟩ := (H.out.below HB.out (Nat.le_refl _)).cells (by intro e; subst e; simp at h1)
        have hc1 := (hcell k h1).c0
        have hd1 := (hcell k h1).c1
        have hb1 := (hcell k h1).t
        generalize l[k] = s at *
        generalize Gz.riseFrom (l.take k) = st at *
        obtain ⟨t, m⟩ := st
        simp only at ht1 ht2 ht3
        have ht : -Gz.far ≤ t ∧ t ≤ Gz.far := by unfold Gz.far at *; omega
        have HS := Lib.hid hsucc
        have HT := Lib.hid ht
        clear hcell hsucc ht1 ht2 ht hR
        have i1 : (0 : Int) ≤ (k : Int) ∧ (k : Int) < (l.length : Int) := by omega
        have i2 : (k : Int) < 2000 := by omega
        by_cases hs : s.t < 0
        · have e1 : wrap64 (s.t + 1) = s.t + 1 := by unfold wrap64; omega
          have e2 : wrap64 (-(s.t + 1)) = -(s.t + 1) := by unfold wrap64; omega
          obtain ⟨T, hT1, hT2⟩ : ∃ T, wrap64 (t + wrap64 (-(Int.tmod (s.t + 1) 4398046511104) + 1)) = T ∧ Hid (Gz.riseFrom (l.take (k + 1)) = (T, m ++ [⟨T, s.v⟩])) := ⟨_, rise_neg t s.t HT.out hs, Lib.hid (by rw [HS.out]; unfold Gz.riseStep; simp only [if_pos hs])⟩
          clear HS HT
          go_wp2_with (at_builtin; rw [hT1]; refine wpList_append_own _ rfl (.tmp 32) (.tmp 40) 22 rfl w.heap.size 70 i0 (.agg #[.int .i64 0, .int .u64 0]) 2 16 Tryd.underlying22 hi0 hz0 hz1 hz2 rfl (by decide) _ _ _ rfl (HO.out.alloc _) ⟨wr.heap.size, 0, none⟩ 1 1 [.int .i64 T, .int .u64 (s.v : Int)] rfl rfl (news_alloc wr [.int .i64 T, .int .u64 (s.v : Int)] 70) (by simp [Value.oneCell']) (by unfold maxLen; omega) (by omega) (by simp; omega) ?_; intro v1 w1 hown1 hgrow1 _; have HO1 := Lib.hid hown1; have HG1 := Lib.hid hgrow1; clear hown1 hgrow1)
          go_roundw
          case rel =>
            refine ⟨k + 1, by simp at hk ⊢; omega, by push_cast; rfl, by rw [hT2.out], ?_, (HB.out.alloc hsz _).grown HG1.out (by simp; omega) (own_row HO.out)⟩
            rw [hT2.out, smCs_snoc]
            exact HO1.out
          case measure => simp [intOf]; omega
        · obtain ⟨T, hT1, hT2⟩ : ∃ T, wrap64 (t + (s.t % 4398046511104 + 1)) = T ∧ Hid (Gz.riseFrom (l.take (k + 1)) = (T, m ++ [⟨T, s.v⟩])) := ⟨_, rise_pos' t s.t HT.out, Lib.hid (by rw [HS.out]; unfold Gz.riseStep; simp only [if_neg hs])⟩
          clear HS HT
          go_wp2_with (at_builtin; rw [hT1]; refine wpList_append_own _ rfl (.tmp 32) (.tmp 40) 22 rfl w.heap.size 70 i0 (.agg #[.int .i64 0, .int .u64 0]) 2 16 Tryd.underlying22 hi0 hz0 hz1 hz2 rfl (by decide) _ _ _ rfl (HO.out.alloc _) ⟨wr.heap.size, 0, none⟩ 1 1 [.int .i64 T, .int .u64 (s.v : Int)] rfl rfl (news_alloc wr [.int .i64 T, .int .u64 (s.v : Int)] 70) (by simp [Value.oneCell']) (by unfold maxLen; omega) (by omega) (by simp; omega) ?_; intro v1 w1 hown1 hgrow1 _; have HO1 := Lib.hid hown1; have HG1 := Lib.hid hgrow1; clear hown1 hgrow1)
          go_roundw
          case rel =>
            refine ⟨k + 1, by simp at hk ⊢; omega, by push_cast; rfl, by rw [hT2.out], ?_, (HB.out.alloc hsz _).grown HG1.out (by simp; omega) (own_row HO.out)⟩
            rw [hT2.out, smCs_snoc]
            exact HO1.out
          case measure => simp [intOf]; omega
      · have e : k = 2000 := by simp at hk; omega
        subst e
        go_wp2
        go_ret
        refine ⟨_, rfl, ?_, HB.out⟩
        have := HO.out
        unfold Gz.rise
        rw [ht3]
        exact this
    · have e : k = l.length := by simp at hk; omega
      have e2 : l.take 2000 = l.take k := by simp at hk; rw [List.take_of_length_le (by omega), List.take_of_length_le (by omega)]
      go_wp2
      go_ret
      refine ⟨_, rfl, ?_, HB.out⟩
      have := HO.out
      unfold Gz.rise
      rw [e2, ht3]
      exact this
end Go.Proofs.YtepjpdhmjchakaaDoor
