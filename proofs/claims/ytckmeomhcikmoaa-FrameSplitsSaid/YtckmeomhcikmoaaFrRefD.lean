/- barographref11.Split: what it returns. -/
import Derived.Test.YtckmeomhcikmoaaFrRefA
import Derived.Test.YtckmeomhcikmoaaFrKnown
namespace Go.Proofs.Ytckmeomhcikmoaa
open Go.RowKit
set_option maxRecDepth 100000
set_option maxHeartbeats 4000000

/-- The sector's call, its numbers as they stand. -/
theorem rsector_at (lo hi : Nat) (w : World) (kd : Int) (k : UInt8) (hk : kd = W8 k) (seg : BitVec 32) (jz : Int) (j : Nat) (hj : jz = (j : Int)) (hj2 : j < 65536) (ax ax' : Option Addr) (n n' c c' : Nat) (p : List UInt8) (hv : Sl lo hi f8 w (.slice ax' n' c') p) (hax : ax = ax') (hn : n = n') (hc : c = c') (hp : p.length ≤ 240) (hhi : hi ≤ w.heap.size) :
    Calls Try.prog 35 #[.int .i64 kd, .int .u32 (W32 seg), .int .i64 jz, .slice ax n c] w fun e w' => ∃ u, e = .returned u ∧ w'.ownsRow w.heap.size 5 1 u 256 ((Fr.sect k seg j p).map f8) ∧ Below w.heap.size w w' := by
  subst hk hj hax hn hc
  exact rsector_any lo hi w k seg j hj2 _ p hv hp hhi

theorem rsplit_any (lo hi : Nat) (w : World) (seg : BitVec 32) (a : Int) (ha : -9223372036854775808 ≤ a ∧ a ≤ 9223372036854775807) (v : Value) (r : List UInt8) (hv : Sl lo hi f8 w v r) (hhi : hi ≤ w.heap.size) :
    Calls Try.prog 21 #[.int .u32 (W32 seg), .int .i64 a, v] w fun e w' => ∃ u, e = .returned (.tuple #[u, .int .u16 ((Fr.splitW seg a r).2 : Int)]) ∧ (∃ vs, ORow w' w.heap.size u vs (Fr.splitW seg a r).1) ∧ Below w.heap.size w w' := by
  obtain ⟨ao, cap, rfl, hv⟩ := hv
  by_cases h1 : 7680 < r.length
  · have i1 : (7680 : Int) < (r.length : Int) := by omega
    have hs : Fr.splitW seg a r = ([], 111) := by unfold Fr.splitW; rw [if_pos h1]
    rw [hs]
    clear hs
    go_enter Try.func21, Try.ntmps21
    go_wp2
    go_ret2
    exact ⟨_, rfl, ⟨_, ORow.nil _ _⟩, Below.refl _ _⟩
  have i1 : ¬ (7680 : Int) < (r.length : Int) := by omega
  obtain ⟨c, hc⟩ : ∃ c, c = Fr.cnt r := ⟨_, rfl⟩
  have HC := Lib.hid hc
  have c1 : 1 ≤ c ∧ c ≤ 32 := by rw [hc]; exact ⟨Fr.cnt_pos r, Fr.cnt_le (by omega)⟩
  have hcl : (r.length = 0 ∧ c = 1) ∨ (0 < r.length ∧ 240 * c < r.length + 240 ∧ r.length ≤ 240 * c) := by
    rw [hc]; unfold Fr.cnt; omega
  have em : (r.length = 0 ∧ c = 1) ∨ (0 < r.length ∧ ((r.length : Int) + 239) / 240 = (c : Int) ∧ (1 : Int) ≤ (c : Int)) := by
    rcases hcl with ⟨h, h2⟩ | ⟨h, h2⟩
    · left; omega
    · right; omega
  clear hc
  by_cases hbad : a < 0 ∨ 32 - (c : Int) < a
  · have hs : Fr.splitW seg a r = ([], 1) := by unfold Fr.splitW; rw [if_neg h1, if_pos (by rw [← HC.out]; exact hbad)]
    rw [hs]
    clear hs hcl HC
    have hbad2 : a < 0 ∨ (¬ a < 0 ∧ 32 - (c : Int) < a) := by omega
    clear hbad
    rcases em with ⟨em0, c11⟩ | ⟨em0, em, em1⟩
    · subst c11
      rcases hbad2 with hb | ⟨hb0, hb⟩
      · go_enter Try.func21, Try.ntmps21
        go_wp2
        go_ret2
        exact ⟨_, rfl, ⟨_, ORow.nil _ _⟩, Below.refl _ _⟩
      · have hb' : (31 : Int) < a := by omega
        go_enter Try.func21, Try.ntmps21
        go_wp2
        go_ret2
        exact ⟨_, rfl, ⟨_, ORow.nil _ _⟩, Below.refl _ _⟩
    · rcases hbad2 with hb | ⟨hb0, hb⟩
      · go_enter Try.func21, Try.ntmps21
        go_wp2
        · go_ret2
          exact ⟨_, rfl, ⟨_, ORow.nil _ _⟩, Below.refl _ _⟩
        · go_ret2
          exact ⟨_, rfl, ⟨_, ORow.nil _ _⟩, Below.refl _ _⟩
      · go_enter Try.func21, Try.ntmps21
        go_wp2
        · go_ret2
          exact ⟨_, rfl, ⟨_, ORow.nil _ _⟩, Below.refl _ _⟩
        · go_ret2
          exact ⟨_, rfl, ⟨_, ORow.nil _ _⟩, Below.refl _ _⟩
  obtain ⟨j, rfl⟩ : ∃ j : Nat, a = (j : Int) := ⟨a.toNat, by omega⟩
  have hj : j + c ≤ 32 := by omega
  have hs : Fr.splitW seg (j : Int) r = (Fr.splitL seg j r, 0) := by unfold Fr.splitW; rw [if_neg h1, if_neg (by rw [← HC.out]; exact hbad), Int.toNat_natCast]
  rw [hs]
  clear hs hbad ha
  by_cases c11 : c = 1
  · subst c11
    have hk00 : ∀ k, k < 1 → k = 0 := fun k h => by omega
    have hb' : ¬ (31 : Int) < (j : Int) := by omega
    have hz : r.length = 0 ∨ 0 < r.length ∧ r.length < 240 ∨ r.length = 240 := by omega
    rcases hz with hz | ⟨hz1, hz⟩ | hz
    · clear em hcl
      have hlen : (r.length : Int) = 0 := by omega
      go_enter Try.func21, Try.ntmps21
      go_wp2
      go_loopw [9, 10] (fun out i wr => ∃ (k : Nat) (vs : List Value), k ≤ 1 ∧ i = .int .i64 k ∧ ORow wr w.heap.size out vs ((List.range k).map (Fr.one seg j r 1)) ∧ Below w.heap.size w wr) (fun _ i _ => 1 - (intOf i).toNat)
      case atStart => exact ⟨0, [], by omega, rfl, ORow.nil _ _, Below.refl _ _⟩
      case round =>
        obtain ⟨k, vs, hk, rfl, hrow, hbel⟩ := hrel
        by_cases hlt : k < 1
        · have hk0 : k = 0 := by omega
          subst hk0
          have hkd : (1 : Int) = W8 (Fr.kindOf 1 0) := by decide
          have HKD := Lib.hid hkd
          clear hkd
          have HV := Lib.hid (show Sl lo hi f8 w (.slice ao 0 cap) (Fr.part r 0) from by have h := Sl.takes hv 0 cap (by omega) (by have := hv.le; omega); rwa [part_zero r 0 (by omega)] at h)
          obtain ⟨i1, hi1, hz1, hz2, hz3⟩ := info_parts info23
          have HR := Lib.hid hrow
          clear hrow
          have hvl : vs.length = 0 := by rw [HR.out.len]; simp
          have HVL := Lib.hid hvl
          clear hvl
          go_wp2_with (first
            | (at_builtin; refine wpList_append_own _ rfl (.tmp 58) (.tmp 60) 30 rfl w.heap.size 23 i1 (.slice none 0 0) 1 24 Try.underlying30 hi1 hz1 hz2 hz3 rfl (by decide) _ vs.length vs rfl ((own_below HR.out.row hb2 (Nat.le_refl _)).alloc _) ⟨w2.heap.size, 0, none⟩ 1 1 [.slice (some ⟨gu, 0, none⟩) 256 cu] rfl rfl (news_alloc w2 [.slice (some ⟨gu, 0, none⟩) 256 cu] 23) (by intro u hu; cases hu with | head => rfl | tail _ h => cases h) (by simp only [maxLen]; have := HVL.out; omega) (by have := HVL.out; omega) (by simp; omega) ?_; intro v3 w3 hown3 hgr3 _; have hb3 := ((hbel.trans (hb2.mono hsz)).alloc (by omega) _).grown hgr3 (by simp; omega) (fun q hq => (HR.out.row.lt q hq).1))
            | (go_at_call 35; refine Calls.mono (rsector_at lo hi wr _ (Fr.kindOf 1 0) (by exact HKD.out) seg _ (j + 0) (by rw [Nat.add_zero]) (by omega) _ _ _ _ _ _ (Fr.part r 0) (by exact HV.out.below hbel hhi) (by rfl) (by omega) (by omega) (Fr.part_le r 0) (Nat.le_trans hhi hbel.size)) ?_; rintro e w2 ⟨u, rfl, hu, hb2⟩; have hsz := hbel.size; have hsz2 := hb2.size; obtain ⟨gu, cu, hue, _, _⟩ := own_shape hu (by decide); subst hue))
          go_roundw
          case rel =>
            refine ⟨0 + 1, vs ++ [.slice (some ⟨gu, 0, none⟩) 256 cu], by omega, by go_num, ?_, hb3⟩
            rw [List.range_succ, List.map_append]
            exact ORow.push HR.out hb2 (r := Fr.one seg j r 1 0) (by rw [Fr.one_len]; exact hu) hsz hown3 hgr3
          case measure => first | (simp [intOf]; done) | (simp [intOf]; omega)
        · have hkc : k = 1 := by omega
          subst hkc
          go_wp2
          go_ret2
          refine ⟨_, rfl, ⟨vs, ?_⟩, hbel⟩
          have : Fr.splitL seg j r = (List.range 1).map (Fr.one seg j r 1) := by unfold Fr.splitL; rw [← HC.out]
          rw [this]
          exact hrow

    · clear hcl
      have em : ((r.length : Int) + 239) / 240 = 1 := by omega
      have hlen : (r.length : Int) < 240 := by omega
      have hcap : r.length ≤ cap := hv.le
      go_enter Try.func21, Try.ntmps21
      go_wp2
      go_loopw [9, 10] (fun out i wr => ∃ (k : Nat) (vs : List Value), k ≤ 1 ∧ i = .int .i64 k ∧ ORow wr w.heap.size out vs ((List.range k).map (Fr.one seg j r 1)) ∧ Below w.heap.size w wr) (fun _ i _ => 1 - (intOf i).toNat)
      case atStart => exact ⟨0, [], by omega, rfl, ORow.nil _ _, Below.refl _ _⟩
      case round =>
        obtain ⟨k, vs, hk, rfl, hrow, hbel⟩ := hrel
        by_cases hlt : k < 1
        · have hk0 : k = 0 := by omega
          subst hk0
          have hkd : (1 : Int) = W8 (Fr.kindOf 1 0) := by decide
          have HKD := Lib.hid hkd
          clear hkd
          have HV := Lib.hid (show Sl lo hi f8 w (.slice ao r.length cap) (Fr.part r 0) from by have h := Sl.takes hv r.length cap (by omega) (by have := hv.le; omega); rwa [part_zero r r.length (by omega)] at h)
          obtain ⟨i1, hi1, hz1, hz2, hz3⟩ := info_parts info23
          have HR := Lib.hid hrow
          clear hrow
          have hvl : vs.length = 0 := by rw [HR.out.len]; simp
          have HVL := Lib.hid hvl
          clear hvl
          go_wp2_with (first
            | (at_builtin; refine wpList_append_own _ rfl (.tmp 58) (.tmp 60) 30 rfl w.heap.size 23 i1 (.slice none 0 0) 1 24 Try.underlying30 hi1 hz1 hz2 hz3 rfl (by decide) _ vs.length vs rfl ((own_below HR.out.row hb2 (Nat.le_refl _)).alloc _) ⟨w2.heap.size, 0, none⟩ 1 1 [.slice (some ⟨gu, 0, none⟩) 256 cu] rfl rfl (news_alloc w2 [.slice (some ⟨gu, 0, none⟩) 256 cu] 23) (by intro u hu; cases hu with | head => rfl | tail _ h => cases h) (by simp only [maxLen]; have := HVL.out; omega) (by have := HVL.out; omega) (by simp; omega) ?_; intro v3 w3 hown3 hgr3 _; have hb3 := ((hbel.trans (hb2.mono hsz)).alloc (by omega) _).grown hgr3 (by simp; omega) (fun q hq => (HR.out.row.lt q hq).1))
            | (go_at_call 35; refine Calls.mono (rsector_at lo hi wr _ (Fr.kindOf 1 0) (by exact HKD.out) seg _ (j + 0) (by rw [Nat.add_zero]) (by omega) _ _ _ _ _ _ (Fr.part r 0) (by exact HV.out.below hbel hhi) (by rfl) (by omega) (by omega) (Fr.part_le r 0) (Nat.le_trans hhi hbel.size)) ?_; rintro e w2 ⟨u, rfl, hu, hb2⟩; have hsz := hbel.size; have hsz2 := hb2.size; obtain ⟨gu, cu, hue, _, _⟩ := own_shape hu (by decide); subst hue))
          go_roundw
          case rel =>
            refine ⟨0 + 1, vs ++ [.slice (some ⟨gu, 0, none⟩) 256 cu], by omega, by go_num, ?_, hb3⟩
            rw [List.range_succ, List.map_append]
            exact ORow.push HR.out hb2 (r := Fr.one seg j r 1 0) (by rw [Fr.one_len]; exact hu) hsz hown3 hgr3
          case measure => first | (simp [intOf]; done) | (simp [intOf]; omega)
        · have hkc : k = 1 := by omega
          subst hkc
          go_wp2
          go_ret2
          refine ⟨_, rfl, ⟨vs, ?_⟩, hbel⟩
          have : Fr.splitL seg j r = (List.range 1).map (Fr.one seg j r 1) := by unfold Fr.splitL; rw [← HC.out]
          rw [this]
          exact hrow

    · clear em hcl
      have hlen : (r.length : Int) = 240 := by omega
      have hcap : (240 : Int) ≤ (cap : Int) := by have := hv.le; omega
      go_enter Try.func21, Try.ntmps21
      go_wp2
      go_loopw [9, 10] (fun out i wr => ∃ (k : Nat) (vs : List Value), k ≤ 1 ∧ i = .int .i64 k ∧ ORow wr w.heap.size out vs ((List.range k).map (Fr.one seg j r 1)) ∧ Below w.heap.size w wr) (fun _ i _ => 1 - (intOf i).toNat)
      case atStart => exact ⟨0, [], by omega, rfl, ORow.nil _ _, Below.refl _ _⟩
      case round =>
        obtain ⟨k, vs, hk, rfl, hrow, hbel⟩ := hrel
        by_cases hlt : k < 1
        · have hk0 : k = 0 := by omega
          subst hk0
          have hkd : (1 : Int) = W8 (Fr.kindOf 1 0) := by decide
          have HKD := Lib.hid hkd
          clear hkd
          have HV := Lib.hid (show Sl lo hi f8 w (.slice ao 240 cap) (Fr.part r 0) from by have h := Sl.takes hv 240 cap (by omega) (by have := hv.le; omega); rwa [part_zero r 240 (by omega)] at h)
          obtain ⟨i1, hi1, hz1, hz2, hz3⟩ := info_parts info23
          have HR := Lib.hid hrow
          clear hrow
          have hvl : vs.length = 0 := by rw [HR.out.len]; simp
          have HVL := Lib.hid hvl
          clear hvl
          go_wp2_with (first
            | (at_builtin; refine wpList_append_own _ rfl (.tmp 58) (.tmp 60) 30 rfl w.heap.size 23 i1 (.slice none 0 0) 1 24 Try.underlying30 hi1 hz1 hz2 hz3 rfl (by decide) _ vs.length vs rfl ((own_below HR.out.row hb2 (Nat.le_refl _)).alloc _) ⟨w2.heap.size, 0, none⟩ 1 1 [.slice (some ⟨gu, 0, none⟩) 256 cu] rfl rfl (news_alloc w2 [.slice (some ⟨gu, 0, none⟩) 256 cu] 23) (by intro u hu; cases hu with | head => rfl | tail _ h => cases h) (by simp only [maxLen]; have := HVL.out; omega) (by have := HVL.out; omega) (by simp; omega) ?_; intro v3 w3 hown3 hgr3 _; have hb3 := ((hbel.trans (hb2.mono hsz)).alloc (by omega) _).grown hgr3 (by simp; omega) (fun q hq => (HR.out.row.lt q hq).1))
            | (go_at_call 35; refine Calls.mono (rsector_at lo hi wr _ (Fr.kindOf 1 0) (by exact HKD.out) seg _ (j + 0) (by rw [Nat.add_zero]) (by omega) _ _ _ _ _ _ (Fr.part r 0) (by exact HV.out.below hbel hhi) (by rfl) (by omega) (by omega) (Fr.part_le r 0) (Nat.le_trans hhi hbel.size)) ?_; rintro e w2 ⟨u, rfl, hu, hb2⟩; have hsz := hbel.size; have hsz2 := hb2.size; obtain ⟨gu, cu, hue, _, _⟩ := own_shape hu (by decide); subst hue))
          go_roundw
          case rel =>
            refine ⟨0 + 1, vs ++ [.slice (some ⟨gu, 0, none⟩) 256 cu], by omega, by go_num, ?_, hb3⟩
            rw [List.range_succ, List.map_append]
            exact ORow.push HR.out hb2 (r := Fr.one seg j r 1 0) (by rw [Fr.one_len]; exact hu) hsz hown3 hgr3
          case measure => first | (simp [intOf]; done) | (simp [intOf]; omega)
        · have hkc : k = 1 := by omega
          subst hkc
          go_wp2
          go_ret2
          refine ⟨_, rfl, ⟨vs, ?_⟩, hbel⟩
          have : Fr.splitL seg j r = (List.range 1).map (Fr.one seg j r 1) := by unfold Fr.splitL; rw [← HC.out]
          rw [this]
          exact hrow

  have em : ((r.length : Int) + 239) / 240 = (c : Int) := by omega
  have c2 : (1 : Int) < (c : Int) := by omega
  have c3 : ((c : Int) == 1) = false := by simp; omega
  have hb' : ¬ (32 : Int) - (c : Int) < (j : Int) := by omega
  have hlen : 240 * (c - 1) < r.length ∧ r.length ≤ 240 * c := by omega
  clear hcl
  go_enter Try.func21, Try.ntmps21
  go_wp2
  go_loopw [9, 10] (fun out i wr => ∃ (k : Nat) (vs : List Value), k ≤ c ∧ i = .int .i64 k ∧ ORow wr w.heap.size out vs ((List.range k).map (Fr.one seg j r c)) ∧ Below w.heap.size w wr) (fun _ i _ => c - (intOf i).toNat)
  case atStart => exact ⟨0, [], by omega, rfl, ORow.nil _ _, Below.refl _ _⟩
  case round =>
    obtain ⟨k, vs, hk, rfl, hrow, hbel⟩ := hrel
    by_cases hlt : k < c
    · have hlt' : (k : Int) < (c : Int) := by omega
      have hle : (r.length : Int) ≤ (cap : Int) := by have := hv.le; omega
      have hle2 : r.length ≤ cap := hv.le
      by_cases hk0 : k = 0
      · subst hk0
        have hm : (240 : Int) < (r.length : Int) := by omega
        have k1 : ((0 : Int) == (c : Int) - 1) = false := by simp; omega
        have hkd : (2 : Int) = W8 (Fr.kindOf c 0) := by unfold Fr.kindOf; rw [if_neg c11, if_pos rfl]; decide
        have HKD := Lib.hid hkd
        clear hkd
        have HV := Lib.hid (show Sl lo hi f8 w (.slice ao 240 cap) (Fr.part r 0) from by have h := Sl.takes hv 240 cap (by omega) (by omega); rwa [part_zero r 240 (by omega)] at h)
        obtain ⟨i1, hi1, hz1, hz2, hz3⟩ := info_parts info23
        have HR := Lib.hid hrow
        clear hrow
        have hvl : vs.length = 0 := by rw [HR.out.len]; simp
        have HVL := Lib.hid hvl
        clear hvl
        go_wp2_with (first
          | (at_builtin; refine wpList_append_own _ rfl (.tmp 58) (.tmp 60) 30 rfl w.heap.size 23 i1 (.slice none 0 0) 1 24 Try.underlying30 hi1 hz1 hz2 hz3 rfl (by decide) _ vs.length vs rfl ((own_below HR.out.row hb2 (Nat.le_refl _)).alloc _) ⟨w2.heap.size, 0, none⟩ 1 1 [.slice (some ⟨gu, 0, none⟩) 256 cu] rfl rfl (news_alloc w2 [.slice (some ⟨gu, 0, none⟩) 256 cu] 23) (by intro u hu; cases hu with | head => rfl | tail _ h => cases h) (by simp only [maxLen]; have := HVL.out; omega) (by have := HVL.out; omega) (by simp; omega) ?_; intro v3 w3 hown3 hgr3 _; have hb3 := ((hbel.trans (hb2.mono hsz)).alloc (by omega) _).grown hgr3 (by simp; omega) (fun q hq => (HR.out.row.lt q hq).1))
          | (go_at_call 35; refine Calls.mono (rsector_at lo hi wr _ (Fr.kindOf c 0) (by exact HKD.out) seg _ (j + 0) (by rw [Nat.add_zero]) (by omega) _ _ _ _ _ _ (Fr.part r 0) (by exact HV.out.below hbel hhi) (by rfl) (by omega) (by omega) (Fr.part_le r 0) (Nat.le_trans hhi hbel.size)) ?_; rintro e w2 ⟨u, rfl, hu, hb2⟩; have hsz := hbel.size; have hsz2 := hb2.size; obtain ⟨gu, cu, hue, _, _⟩ := own_shape hu (by decide); subst hue))
        go_roundw
        case rel =>
          refine ⟨0 + 1, vs ++ [.slice (some ⟨gu, 0, none⟩) 256 cu], by omega, by go_num, ?_, hb3⟩
          rw [List.range_succ, List.map_append]
          exact ORow.push HR.out hb2 (r := Fr.one seg j r c 0) (by rw [Fr.one_len]; exact hu) hsz hown3 hgr3
        case measure => first | (simp [intOf]; done) | (simp [intOf]; omega)
      have k0 : ((k : Int) == 0) = false := by simp; omega
      have q0 : ¬ cap = 240 * k := by omega
      have q1 : (0 : Int) ≤ 240 * (k : Int) := by omega
      have q2 : 240 * (k : Int) ≤ (r.length : Int) := by omega
      by_cases hk1 : k = c - 1
      · have k1 : ((k : Int) == (c : Int) - 1) = true := by simp; omega
        rcases (show r.length < 240 * k + 240 ∨ r.length = 240 * k + 240 by omega) with hm0 | hm0
        · have hm : (r.length : Int) < 240 * (k : Int) + 240 := by omega
          have hkd : (4 : Int) = W8 (Fr.kindOf c k) := by unfold Fr.kindOf; rw [if_neg c11, if_neg hk0, if_pos hk1]; decide
          have HKD := Lib.hid hkd
          clear hkd
          have HV := Lib.hid (show Sl lo hi f8 w (.slice (ao.map fun x => x.add (240 * k)) (r.length - 240 * k) (cap - 240 * k)) (Fr.part r k) from by have h := Sl.mapsub hv (240 * k) (r.length - 240 * k) (cap - 240 * k) (by omega) (by omega) (by intro e; have := hv.none e; omega); rwa [show (r.drop (240 * k)).take (r.length - 240 * k) = Fr.part r k from by rw [← part_eq r k (r.length - 240 * k) (by omega) (by omega), Nat.mul_comm]] at h)
          obtain ⟨i1, hi1, hz1, hz2, hz3⟩ := info_parts info23
          have HR := Lib.hid hrow
          clear hrow
          have hvl : vs.length = k := by rw [HR.out.len]; simp
          have HVL := Lib.hid hvl
          clear hvl
          clear hk1
          go_wp2_with (first
            | (at_builtin; refine wpList_append_own _ rfl (.tmp 58) (.tmp 60) 30 rfl w.heap.size 23 i1 (.slice none 0 0) 1 24 Try.underlying30 hi1 hz1 hz2 hz3 rfl (by decide) _ vs.length vs rfl ((own_below HR.out.row hb2 (Nat.le_refl _)).alloc _) ⟨w2.heap.size, 0, none⟩ 1 1 [.slice (some ⟨gu, 0, none⟩) 256 cu] rfl rfl (news_alloc w2 [.slice (some ⟨gu, 0, none⟩) 256 cu] 23) (by intro u hu; cases hu with | head => rfl | tail _ h => cases h) (by simp only [maxLen]; have := HVL.out; omega) (by have := HVL.out; omega) (by simp; omega) ?_; intro v3 w3 hown3 hgr3 _; have hb3 := ((hbel.trans (hb2.mono hsz)).alloc (by omega) _).grown hgr3 (by simp; omega) (fun q hq => (HR.out.row.lt q hq).1))
            | (go_at_call 35; refine Calls.mono (rsector_at lo hi wr _ (Fr.kindOf c k) (by exact HKD.out) seg _ (j + k) (by rw [Int.natCast_add]) (by omega) _ _ _ _ _ _ (Fr.part r k) (by exact HV.out.below hbel hhi) (by rfl) (by omega) (by omega) (Fr.part_le r k) (Nat.le_trans hhi hbel.size)) ?_; rintro e w2 ⟨u, rfl, hu, hb2⟩; have hsz := hbel.size; have hsz2 := hb2.size; obtain ⟨gu, cu, hue, _, _⟩ := own_shape hu (by decide); subst hue))
          go_roundw
          case rel =>
            refine ⟨k + 1, vs ++ [.slice (some ⟨gu, 0, none⟩) 256 cu], by omega, by go_num, ?_, hb3⟩
            rw [List.range_succ, List.map_append]
            exact ORow.push HR.out hb2 (r := Fr.one seg j r c k) (by rw [Fr.one_len]; exact hu) hsz hown3 hgr3
          case measure => first | (simp [intOf]; done) | (simp [intOf]; omega)
        · have hm : ¬ (r.length : Int) < 240 * (k : Int) + 240 := by omega
          have hm2 : ¬ 240 * (k : Int) + 240 < (r.length : Int) := by omega
          clear em
          have hkd : (4 : Int) = W8 (Fr.kindOf c k) := by unfold Fr.kindOf; rw [if_neg c11, if_neg hk0, if_pos hk1]; decide
          have HKD := Lib.hid hkd
          clear hkd
          have HV := Lib.hid (show Sl lo hi f8 w (.slice (ao.map fun x => x.add (240 * k)) (240) (cap - 240 * k)) (Fr.part r k) from by have h := Sl.mapsub hv (240 * k) (240) (cap - 240 * k) (by omega) (by omega) (by intro e; have := hv.none e; omega); rwa [show (r.drop (240 * k)).take (240) = Fr.part r k from by rw [← part_eq r k (240) (by omega) (by omega), Nat.mul_comm]] at h)
          obtain ⟨i1, hi1, hz1, hz2, hz3⟩ := info_parts info23
          have HR := Lib.hid hrow
          clear hrow
          have hvl : vs.length = k := by rw [HR.out.len]; simp
          have HVL := Lib.hid hvl
          clear hvl
          have e240 : 240 * k + 240 - 240 * k = 240 := by omega
          clear hk1 hm0
          go_wp2_with (first
            | (at_builtin; refine wpList_append_own _ rfl (.tmp 58) (.tmp 60) 30 rfl w.heap.size 23 i1 (.slice none 0 0) 1 24 Try.underlying30 hi1 hz1 hz2 hz3 rfl (by decide) _ vs.length vs rfl ((own_below HR.out.row hb2 (Nat.le_refl _)).alloc _) ⟨w2.heap.size, 0, none⟩ 1 1 [.slice (some ⟨gu, 0, none⟩) 256 cu] rfl rfl (news_alloc w2 [.slice (some ⟨gu, 0, none⟩) 256 cu] 23) (by intro u hu; cases hu with | head => rfl | tail _ h => cases h) (by simp only [maxLen]; have := HVL.out; omega) (by have := HVL.out; omega) (by simp; omega) ?_; intro v3 w3 hown3 hgr3 _; have hb3 := ((hbel.trans (hb2.mono hsz)).alloc (by omega) _).grown hgr3 (by simp; omega) (fun q hq => (HR.out.row.lt q hq).1))
            | (go_at_call 35; refine Calls.mono (rsector_at lo hi wr _ (Fr.kindOf c k) (by exact HKD.out) seg _ (j + k) (by rw [Int.natCast_add]) (by omega) _ _ _ _ _ _ (Fr.part r k) (by exact HV.out.below hbel hhi) (by rfl) (by omega) (by omega) (Fr.part_le r k) (Nat.le_trans hhi hbel.size)) ?_; rintro e w2 ⟨u, rfl, hu, hb2⟩; have hsz := hbel.size; have hsz2 := hb2.size; obtain ⟨gu, cu, hue, _, _⟩ := own_shape hu (by decide); subst hue))
          go_roundw
          case rel =>
            refine ⟨k + 1, vs ++ [.slice (some ⟨gu, 0, none⟩) 256 cu], by omega, by go_num, ?_, hb3⟩
            rw [List.range_succ, List.map_append]
            exact ORow.push HR.out hb2 (r := Fr.one seg j r c k) (by rw [Fr.one_len]; exact hu) hsz hown3 hgr3
          case measure => first | (simp [intOf]; done) | (simp [intOf]; omega)
      have k1 : ((k : Int) == (c : Int) - 1) = false := by simp; omega
      have hm : 240 * (k : Int) + 240 < (r.length : Int) := by omega
      have hkd : (3 : Int) = W8 (Fr.kindOf c k) := by unfold Fr.kindOf; rw [if_neg c11, if_neg hk0, if_neg hk1]; decide
      have HKD := Lib.hid hkd
      clear hkd
      have HV := Lib.hid (show Sl lo hi f8 w (.slice (ao.map fun x => x.add (240 * k)) (240) (cap - 240 * k)) (Fr.part r k) from by have h := Sl.mapsub hv (240 * k) (240) (cap - 240 * k) (by omega) (by omega) (by intro e; have := hv.none e; omega); rwa [show (r.drop (240 * k)).take (240) = Fr.part r k from by rw [← part_eq r k (240) (by omega) (by omega), Nat.mul_comm]] at h)
      obtain ⟨i1, hi1, hz1, hz2, hz3⟩ := info_parts info23
      have HR := Lib.hid hrow
      clear hrow
      have hvl : vs.length = k := by rw [HR.out.len]; simp
      have HVL := Lib.hid hvl
      clear hvl
      have e240 : 240 * k + 240 - 240 * k = 240 := by omega
      go_wp2_with (first
        | (at_builtin; refine wpList_append_own _ rfl (.tmp 58) (.tmp 60) 30 rfl w.heap.size 23 i1 (.slice none 0 0) 1 24 Try.underlying30 hi1 hz1 hz2 hz3 rfl (by decide) _ vs.length vs rfl ((own_below HR.out.row hb2 (Nat.le_refl _)).alloc _) ⟨w2.heap.size, 0, none⟩ 1 1 [.slice (some ⟨gu, 0, none⟩) 256 cu] rfl rfl (news_alloc w2 [.slice (some ⟨gu, 0, none⟩) 256 cu] 23) (by intro u hu; cases hu with | head => rfl | tail _ h => cases h) (by simp only [maxLen]; have := HVL.out; omega) (by have := HVL.out; omega) (by simp; omega) ?_; intro v3 w3 hown3 hgr3 _; have hb3 := ((hbel.trans (hb2.mono hsz)).alloc (by omega) _).grown hgr3 (by simp; omega) (fun q hq => (HR.out.row.lt q hq).1))
        | (go_at_call 35; refine Calls.mono (rsector_at lo hi wr _ (Fr.kindOf c k) (by exact HKD.out) seg _ (j + k) (by rw [Int.natCast_add]) (by omega) _ _ _ _ _ _ (Fr.part r k) (by exact HV.out.below hbel hhi) (by rfl) (by omega) (by omega) (Fr.part_le r k) (Nat.le_trans hhi hbel.size)) ?_; rintro e w2 ⟨u, rfl, hu, hb2⟩; have hsz := hbel.size; have hsz2 := hb2.size; obtain ⟨gu, cu, hue, _, _⟩ := own_shape hu (by decide); subst hue))
      go_roundw
      case rel =>
        refine ⟨k + 1, vs ++ [.slice (some ⟨gu, 0, none⟩) 256 cu], by omega, by go_num, ?_, hb3⟩
        rw [List.range_succ, List.map_append]
        exact ORow.push HR.out hb2 (r := Fr.one seg j r c k) (by rw [Fr.one_len]; exact hu) hsz hown3 hgr3
      case measure => first | (simp [intOf]; done) | (simp [intOf]; omega)
    · have hkc : k = c := by omega
      subst hkc
      go_wp2
      go_ret2
      refine ⟨_, rfl, ⟨vs, ?_⟩, hbel⟩
      have : Fr.splitL seg j r = (List.range k).map (Fr.one seg j r k) := by unfold Fr.splitL; rw [← HC.out]
      rw [this]
      exact hrow

theorem rsplit_at (lo hi : Nat) (w : World) (seg : BitVec 32) (a : Int) (ha : -9223372036854775808 ≤ a ∧ a ≤ 9223372036854775807) (v : Value) (r : List UInt8) (hv : Sl lo hi f8 w v r) (hhi : hi ≤ w.heap.size) (R : List (List UInt8)) (E : Nat) (hR : Fr.splitW seg a r = (R, E)) :
    Calls Try.prog 21 #[.int .u32 (W32 seg), .int .i64 a, v] w fun e w' => ∃ u vs, e = .returned (.tuple #[u, .int .u16 (E : Int)]) ∧ ORow w' w.heap.size u vs R ∧ Below w.heap.size w w' := by
  have h := rsplit_any lo hi w seg a ha v r hv hhi
  rw [hR] at h
  exact h.mono fun e w' ⟨u, he, ⟨vs, hr⟩, hb⟩ => ⟨u, vs, he, hr, hb⟩
end Go.Proofs.Ytckmeomhcikmoaa
