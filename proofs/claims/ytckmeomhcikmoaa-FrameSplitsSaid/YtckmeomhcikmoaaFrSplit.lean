/- frame.Split: what it returns. -/
import Derived.Test.YtckmeomhcikmoaaFrPiece
import Derived.Test.YtckmeomhcikmoaaFrPlain2
namespace Go.Proofs.Ytckmeomhcikmoaa
open Go.RowKit
set_option maxRecDepth 100000
set_option maxHeartbeats 4000000

theorem info23 : (Try.prog.info? 23).map (fun i => (i.zero, i.size, i.bytes)) = some (some (.slice none 0 0), 1, 24) := by kernel_rfl

/-- A part of what is read. -/
theorem Sl.mapsub {α : Type} {lo hi : Nat} {f : α → Value} {w : World} {ao : Option Addr} {cap : Nat} {l : List α} (h : SlC lo hi f w ao cap l) (i n c : Nat) (hin : i + n ≤ l.length) (hnc : n ≤ c) (hc : ao = none → c = 0) :
    Sl lo hi f w (.slice (ao.map fun x => x.add i) n c) ((l.drop i).take n) := by
  cases ao with
  | none =>
    have h0 := hc rfl
    have h1 : n = 0 := by omega
    subst h1
    rw [h0, List.take_zero]
    exact Sl.nil _ _ _ _
  | some ad =>
    rcases Nat.eq_zero_or_pos n with h0 | h0
    · subst h0
      rw [List.take_zero]
      exact Sl.empty _ _ _ _ _ _
    · obtain ⟨b, off, hb, _⟩ := h.cells (by intro e; subst e; simp at hin; omega)
      cases hb
      have := Sl.sub h i hin h0 c hnc
      rw [Option.map_some, Addr.add_lit]
      exact this
theorem Sl.takes {α : Type} {lo hi : Nat} {f : α → Value} {w : World} {ao : Option Addr} {cap : Nat} {l : List α} (h : SlC lo hi f w ao cap l) (n c : Nat) (hin : n ≤ l.length) (hnc : n ≤ c) (hc : ao = none → c = 0 := by intro e; first | omega | (have := (SlC.none (by assumption) e); omega)) :
    Sl lo hi f w (.slice ao n c) (l.take n) := by
  have h0 := Sl.mapsub h 0 n c (by omega) hnc hc
  rw [List.drop_zero] at h0
  have e : (ao.map fun x => x.add 0) = ao := by
    cases ao with
    | none => rfl
    | some ad =>
      rw [Option.map_some]
      cases ad
      simp [Addr.add]
  rwa [e] at h0
theorem part_zero (r : List UInt8) (n : Nat) (h : n = 240 ∧ 240 ≤ r.length ∨ n ≤ 240 ∧ n = r.length) : r.take n = Fr.part r 0 := by
  unfold Fr.part
  rw [Nat.mul_zero, List.drop_zero]
  rcases h with ⟨rfl, _⟩ | ⟨h1, rfl⟩
  · rfl
  · rw [List.take_of_length_le (Nat.le_refl _), List.take_of_length_le h1]
theorem part_eq (r : List UInt8) (k n : Nat) (h1 : 240 * k + n ≤ r.length) (h2 : n = 240 ∨ n < 240 ∧ 240 * k + n = r.length) : (r.drop (k * 240)).take n = Fr.part r k := by
  unfold Fr.part
  rw [Nat.mul_comm k 240]
  rcases h2 with rfl | ⟨h2, h3⟩
  · rfl
  · rw [List.take_of_length_le (by rw [List.length_drop]; omega), List.take_of_length_le (by rw [List.length_drop]; omega)]
/-- The sector's call, its numbers as they stand. -/
theorem sector_at (lo hi : Nat) (w : World) (kd : Int) (k : UInt8) (hk : kd = W8 k) (seg : BitVec 32) (jz : Int) (j : Nat) (hj : jz = (j : Int)) (hj2 : j < 65536) (ax ax' : Option Addr) (n n' c c' : Nat) (p : List UInt8) (hv : Sl lo hi f8 w (.slice ax' n' c') p) (hax : ax = ax') (hn : n = n') (hc : c = c') (hp : p.length ≤ 240) (hhi : hi ≤ w.heap.size) :
    Calls Try.prog 34 #[.int .u8 kd, .int .u32 (W32 seg), .int .i64 jz, .slice ax n c] w fun e w' => ∃ u, e = .returned u ∧ w'.ownsRow w.heap.size 5 1 u 256 ((Fr.sect k seg j p).map f8) ∧ Below w.heap.size w w' := by
  subst hk hj hax hn hc
  exact sector_any lo hi w k seg j hj2 _ p hv hp hhi
/-- One more row, that a call has made. -/
theorem ORow.push {wr w2 w3 : World} {o : Obj} {base : Nat} {out out' u : Value} {vs : List Value} {rows : List (List UInt8)} {r : List UInt8} (hrow : ORow wr base out vs rows) (hb2 : Below wr.heap.size wr w2) (hu : w2.ownsRow wr.heap.size 5 1 u r.length (r.map f8)) (hbase : base ≤ wr.heap.size)
    (hw3 : w3.ownsRow base 23 1 out' (vs.length + 1) (vs ++ [u])) (g : (w2.alloc o).grownBy w3 out.ownBlock) : ORow w3 base out' (vs ++ [u]) (rows ++ [r]) := by
  have h2 := (hrow.below hb2 (Nat.le_refl _)).below ((Below.refl w2.heap.size w2).alloc (Nat.le_refl _) o) (Nat.le_refl _)
  refine h2.snoc (own_mono (hu.alloc o) hbase) (fun x hx k hk e => ?_) hw3 g
  have h3 := (hrow.lt.2 x hx k hk).2
  have h4 := (hu.lt k e).1
  omega

theorem split_any (lo hi : Nat) (w : World) (seg : BitVec 32) (a : Int) (ha : -9223372036854775808 ≤ a ∧ a ≤ 9223372036854775807) (v : Value) (r : List UInt8) (hv : Sl lo hi f8 w v r) (hhi : hi ≤ w.heap.size) :
    Calls Try.prog 19 #[.int .u32 (W32 seg), .int .i64 a, v] w fun e w' => ∃ u, e = .returned (.tuple #[u, .int .u16 ((Fr.splitW seg a r).2 : Int)]) ∧ (∃ vs, ORow w' w.heap.size u vs (Fr.splitW seg a r).1) ∧ Below w.heap.size w w' := by
  obtain ⟨ao, cap, rfl, hv⟩ := hv
  by_cases h1 : 7680 < r.length
  · have i1 : (7680 : Int) < (r.length : Int) := by omega
    have hs : Fr.splitW seg a r = ([], 111) := by unfold Fr.splitW; rw [if_pos h1]
    rw [hs]
    clear hs
    go_enter Try.func19, Try.ntmps19
    go_wp2
    go_ret2
    exact ⟨_, rfl, ⟨_, ORow.nil _ _⟩, Below.refl _ _⟩
  have i1 : ¬ (7680 : Int) < (r.length : Int) := by omega
  obtain ⟨c, hc⟩ : ∃ c, c = Fr.cnt r := ⟨_, rfl⟩
  have HC := Lib.hid hc
  have c1 : 1 ≤ c ∧ c ≤ 32 := by rw [hc]; exact ⟨Fr.cnt_pos r, Fr.cnt_le (by omega)⟩
  have hcl : (r.length = 0 ∧ c = 1) ∨ (0 < r.length ∧ 240 * c < r.length + 240 ∧ r.length ≤ 240 * c) := by
    rw [hc]; unfold Fr.cnt; omega
  have em : (r.length = 0 ∧ c = 1) ∨ (0 < r.length ∧ ((r.length : Int) + 240 - 1) / 240 = (c : Int) ∧ (1 : Int) ≤ (c : Int)) := by
    rcases hcl with ⟨h, h2⟩ | ⟨h, h2⟩
    · left; omega
    · right; omega
  clear hc
  by_cases hbad : a < 0 ∨ 32 - (c : Int) < a
  · have hs : Fr.splitW seg a r = ([], 1) := by unfold Fr.splitW; rw [if_neg h1, if_pos (by rw [← HC.out]; exact hbad)]
    rw [hs]
    clear hs hcl HC
    have hbad2 : a < 0 ∨ (¬ a < 0 ∧ 32 - (c : Int) < a) := by omega
    clear hbad
    rcases em with ⟨em0, c11⟩ | ⟨em0, em, em1⟩
    · subst c11
      rcases hbad2 with hb | ⟨hb0, hb⟩
      · go_enter Try.func19, Try.ntmps19
        go_wp2
        go_ret2
        exact ⟨_, rfl, ⟨_, ORow.nil _ _⟩, Below.refl _ _⟩
      · have hb' : (31 : Int) < a := by omega
        go_enter Try.func19, Try.ntmps19
        go_wp2
        go_ret2
        exact ⟨_, rfl, ⟨_, ORow.nil _ _⟩, Below.refl _ _⟩
    · rcases hbad2 with hb | ⟨hb0, hb⟩
      · go_enter Try.func19, Try.ntmps19
        go_wp2
        · go_ret2
          exact ⟨_, rfl, ⟨_, ORow.nil _ _⟩, Below.refl _ _⟩
        · go_ret2
          exact ⟨_, rfl, ⟨_, ORow.nil _ _⟩, Below.refl _ _⟩
      · go_enter Try.func19, Try.ntmps19
        go_wp2
        · go_ret2
          exact ⟨_, rfl, ⟨_, ORow.nil _ _⟩, Below.refl _ _⟩
        · go_ret2
          exact ⟨_, rfl, ⟨_, ORow.nil _ _⟩, Below.refl _ _⟩
  obtain ⟨j, rfl⟩ : ∃ j : Nat, a = (j : Int) := ⟨a.toNat, by omega⟩
  have hj : j + c ≤ 32 := by omega
  have hs : Fr.splitW seg (j : Int) r = (Fr.splitL seg j r, 0) := by unfold Fr.splitW; rw [if_neg h1, if_neg (by rw [← HC.out]; exact hbad), Int.toNat_natCast]
  rw [hs]
  clear hs hbad ha
  by_cases c11 : c = 1
  · subst c11
    have hk00 : ∀ k, k < 1 → k = 0 := fun k h => by omega
    have hb' : ¬ (31 : Int) < (j : Int) := by omega
    have hz : r.length = 0 ∨ 0 < r.length ∧ r.length < 240 ∨ r.length = 240 := by omega
    rcases hz with hz | ⟨hz1, hz⟩ | hz
    · clear em hcl
      have hlen : (r.length : Int) = 0 := by omega
      go_enter Try.func19, Try.ntmps19
      go_wp2
      go_loopw [9, 32] (fun out i wr => ∃ (k : Nat) (vs : List Value), k ≤ 1 ∧ i = .int .i64 k ∧ ORow wr w.heap.size out vs ((List.range k).map (Fr.one seg j r 1)) ∧ Below w.heap.size w wr) (fun _ i _ => 1 - (intOf i).toNat)
      case atStart => exact ⟨0, [], by omega, rfl, ORow.nil _ _, Below.refl _ _⟩
      case round =>
        obtain ⟨k, vs, hk, rfl, hrow, hbel⟩ := hrel
        by_cases hlt : k < 1
        · have hk0 : k = 0 := by omega
          subst hk0
          have hkd : (1 : Int) = W8 (Fr.kindOf 1 0) := by decide
          have HKD := Lib.hid hkd
          clear hkd
          have HV := Lib.hid (show Sl lo hi f8 w (.slice ao 0 0) (Fr.part r 0) from by have h := Sl.takes hv 0 0 (by omega) (Nat.le_refl _); rwa [part_zero r 0 (by omega)] at h)
          obtain ⟨i1, hi1, hz1, hz2, hz3⟩ := info_parts info23
          have HR := Lib.hid hrow
          clear hrow
          have hvl : vs.length = 0 := by rw [HR.out.len]; simp
          have HVL := Lib.hid hvl
          clear hvl
          go_wp2_with (first
            | (at_builtin; refine wpList_append_own _ rfl (.tmp 54) (.tmp 66) 30 rfl w.heap.size 23 i1 (.slice none 0 0) 1 24 Try.underlying30 hi1 hz1 hz2 hz3 rfl (by decide) _ vs.length vs rfl ((own_below HR.out.row hb2 (Nat.le_refl _)).alloc _) ⟨w2.heap.size, 0, none⟩ 1 1 [.slice (some ⟨gu, 0, none⟩) 256 cu] rfl rfl (news_alloc w2 [.slice (some ⟨gu, 0, none⟩) 256 cu] 23) (by intro u hu; cases hu with | head => rfl | tail _ h => cases h) (by simp only [maxLen]; have := HVL.out; omega) (by have := HVL.out; omega) (by simp; omega) ?_; intro v3 w3 hown3 hgr3 _; have hb3 := ((hbel.trans (hb2.mono hsz)).alloc (by omega) _).grown hgr3 (by simp; omega) (fun q hq => (HR.out.row.lt q hq).1))
            | (go_at_call 34; refine Calls.mono (sector_at lo hi wr _ (Fr.kindOf 1 0) (by exact HKD.out) seg _ (j + 0) (by rw [Nat.add_zero]) (by omega) _ _ _ _ _ _ (Fr.part r 0) (by exact HV.out.below hbel hhi) (by rfl) (by omega) (by omega) (Fr.part_le r 0) (Nat.le_trans hhi hbel.size)) ?_; rintro e w2 ⟨u, rfl, hu, hb2⟩; have hsz := hbel.size; have hsz2 := hb2.size; obtain ⟨gu, cu, hue, _, _⟩ := own_shape hu (by decide); subst hue))
          go_roundw
          case rel =>
            refine ⟨0 + 1, vs ++ [.slice (some ⟨gu, 0, none⟩) 256 cu], by omega, by go_num, ?_, hb3⟩
            rw [List.range_succ, List.map_append]
            exact ORow.push HR.out hb2 (r := Fr.one seg j r 1 0) (by rw [Fr.one_len]; exact hu) hsz hown3 hgr3
          case measure => first | (simp [intOf]; done) | (simp [intOf]; omega)
        · have hkc : k = 1 := by omega
          subst hkc
          go_wp2
          go_ret2
          refine ⟨_, rfl, ⟨vs, ?_⟩, hbel⟩
          have : Fr.splitL seg j r = (List.range 1).map (Fr.one seg j r 1) := by unfold Fr.splitL; rw [← HC.out]
          rw [this]
          exact hrow

    · clear hcl
      have em : ((r.length : Int) + 240 - 1) / 240 = 1 := by omega
      have hlen : (r.length : Int) < 240 := by omega
      have hcap : r.length ≤ cap := hv.le
      go_enter Try.func19, Try.ntmps19
      go_wp2
      go_loopw [9, 32] (fun out i wr => ∃ (k : Nat) (vs : List Value), k ≤ 1 ∧ i = .int .i64 k ∧ ORow wr w.heap.size out vs ((List.range k).map (Fr.one seg j r 1)) ∧ Below w.heap.size w wr) (fun _ i _ => 1 - (intOf i).toNat)
      case atStart => exact ⟨0, [], by omega, rfl, ORow.nil _ _, Below.refl _ _⟩
      case round =>
        obtain ⟨k, vs, hk, rfl, hrow, hbel⟩ := hrel
        by_cases hlt : k < 1
        · have hk0 : k = 0 := by omega
          subst hk0
          have hkd : (1 : Int) = W8 (Fr.kindOf 1 0) := by decide
          have HKD := Lib.hid hkd
          clear hkd
          have HV := Lib.hid (show Sl lo hi f8 w (.slice ao r.length r.length) (Fr.part r 0) from by have h := Sl.takes hv r.length r.length (by omega) (Nat.le_refl _); rwa [part_zero r r.length (by omega)] at h)
          obtain ⟨i1, hi1, hz1, hz2, hz3⟩ := info_parts info23
          have HR := Lib.hid hrow
          clear hrow
          have hvl : vs.length = 0 := by rw [HR.out.len]; simp
          have HVL := Lib.hid hvl
          clear hvl
          go_wp2_with (first
            | (at_builtin; refine wpList_append_own _ rfl (.tmp 54) (.tmp 66) 30 rfl w.heap.size 23 i1 (.slice none 0 0) 1 24 Try.underlying30 hi1 hz1 hz2 hz3 rfl (by decide) _ vs.length vs rfl ((own_below HR.out.row hb2 (Nat.le_refl _)).alloc _) ⟨w2.heap.size, 0, none⟩ 1 1 [.slice (some ⟨gu, 0, none⟩) 256 cu] rfl rfl (news_alloc w2 [.slice (some ⟨gu, 0, none⟩) 256 cu] 23) (by intro u hu; cases hu with | head => rfl | tail _ h => cases h) (by simp only [maxLen]; have := HVL.out; omega) (by have := HVL.out; omega) (by simp; omega) ?_; intro v3 w3 hown3 hgr3 _; have hb3 := ((hbel.trans (hb2.mono hsz)).alloc (by omega) _).grown hgr3 (by simp; omega) (fun q hq => (HR.out.row.lt q hq).1))
            | (go_at_call 34; refine Calls.mono (sector_at lo hi wr _ (Fr.kindOf 1 0) (by exact HKD.out) seg _ (j + 0) (by rw [Nat.add_zero]) (by omega) _ _ _ _ _ _ (Fr.part r 0) (by exact HV.out.below hbel hhi) (by rfl) (by omega) (by omega) (Fr.part_le r 0) (Nat.le_trans hhi hbel.size)) ?_; rintro e w2 ⟨u, rfl, hu, hb2⟩; have hsz := hbel.size; have hsz2 := hb2.size; obtain ⟨gu, cu, hue, _, _⟩ := own_shape hu (by decide); subst hue))
          go_roundw
          case rel =>
            refine ⟨0 + 1, vs ++ [.slice (some ⟨gu, 0, none⟩) 256 cu], by omega, by go_num, ?_, hb3⟩
            rw [List.range_succ, List.map_append]
            exact ORow.push HR.out hb2 (r := Fr.one seg j r 1 0) (by rw [Fr.one_len]; exact hu) hsz hown3 hgr3
          case measure => first | (simp [intOf]; done) | (simp [intOf]; omega)
        · have hkc : k = 1 := by omega
          subst hkc
          go_wp2
          go_ret2
          refine ⟨_, rfl, ⟨vs, ?_⟩, hbel⟩
          have : Fr.splitL seg j r = (List.range 1).map (Fr.one seg j r 1) := by unfold Fr.splitL; rw [← HC.out]
          rw [this]
          exact hrow

    · clear em hcl
      have hlen : (r.length : Int) = 240 := by omega
      have hcap : (240 : Int) ≤ (cap : Int) := by have := hv.le; omega
      go_enter Try.func19, Try.ntmps19
      go_wp2
      go_loopw [9, 32] (fun out i wr => ∃ (k : Nat) (vs : List Value), k ≤ 1 ∧ i = .int .i64 k ∧ ORow wr w.heap.size out vs ((List.range k).map (Fr.one seg j r 1)) ∧ Below w.heap.size w wr) (fun _ i _ => 1 - (intOf i).toNat)
      case atStart => exact ⟨0, [], by omega, rfl, ORow.nil _ _, Below.refl _ _⟩
      case round =>
        obtain ⟨k, vs, hk, rfl, hrow, hbel⟩ := hrel
        by_cases hlt : k < 1
        · have hk0 : k = 0 := by omega
          subst hk0
          have hkd : (1 : Int) = W8 (Fr.kindOf 1 0) := by decide
          have HKD := Lib.hid hkd
          clear hkd
          have HV := Lib.hid (show Sl lo hi f8 w (.slice ao 240 240) (Fr.part r 0) from by have h := Sl.takes hv 240 240 (by omega) (Nat.le_refl _); rwa [part_zero r 240 (by omega)] at h)
          obtain ⟨i1, hi1, hz1, hz2, hz3⟩ := info_parts info23
          have HR := Lib.hid hrow
          clear hrow
          have hvl : vs.length = 0 := by rw [HR.out.len]; simp
          have HVL := Lib.hid hvl
          clear hvl
          go_wp2_with (first
            | (at_builtin; refine wpList_append_own _ rfl (.tmp 54) (.tmp 66) 30 rfl w.heap.size 23 i1 (.slice none 0 0) 1 24 Try.underlying30 hi1 hz1 hz2 hz3 rfl (by decide) _ vs.length vs rfl ((own_below HR.out.row hb2 (Nat.le_refl _)).alloc _) ⟨w2.heap.size, 0, none⟩ 1 1 [.slice (some ⟨gu, 0, none⟩) 256 cu] rfl rfl (news_alloc w2 [.slice (some ⟨gu, 0, none⟩) 256 cu] 23) (by intro u hu; cases hu with | head => rfl | tail _ h => cases h) (by simp only [maxLen]; have := HVL.out; omega) (by have := HVL.out; omega) (by simp; omega) ?_; intro v3 w3 hown3 hgr3 _; have hb3 := ((hbel.trans (hb2.mono hsz)).alloc (by omega) _).grown hgr3 (by simp; omega) (fun q hq => (HR.out.row.lt q hq).1))
            | (go_at_call 34; refine Calls.mono (sector_at lo hi wr _ (Fr.kindOf 1 0) (by exact HKD.out) seg _ (j + 0) (by rw [Nat.add_zero]) (by omega) _ _ _ _ _ _ (Fr.part r 0) (by exact HV.out.below hbel hhi) (by rfl) (by omega) (by omega) (Fr.part_le r 0) (Nat.le_trans hhi hbel.size)) ?_; rintro e w2 ⟨u, rfl, hu, hb2⟩; have hsz := hbel.size; have hsz2 := hb2.size; obtain ⟨gu, cu, hue, _, _⟩ := own_shape hu (by decide); subst hue))
          go_roundw
          case rel =>
            refine ⟨0 + 1, vs ++ [.slice (some ⟨gu, 0, none⟩) 256 cu], by omega, by go_num, ?_, hb3⟩
            rw [List.range_succ, List.map_append]
            exact ORow.push HR.out hb2 (r := Fr.one seg j r 1 0) (by rw [Fr.one_len]; exact hu) hsz hown3 hgr3
          case measure => first | (simp [intOf]; done) | (simp [intOf]; omega)
        · have hkc : k = 1 := by omega
          subst hkc
          go_wp2
          go_ret2
          refine ⟨_, rfl, ⟨vs, ?_⟩, hbel⟩
          have : Fr.splitL seg j r = (List.range 1).map (Fr.one seg j r 1) := by unfold Fr.splitL; rw [← HC.out]
          rw [this]
          exact hrow

  have em : ((r.length : Int) + 240 - 1) / 240 = (c : Int) := by omega
  have c2 : (1 : Int) < (c : Int) := by omega
  have c3 : ((c : Int) == 1) = false := by simp; omega
  have hb' : ¬ (32 : Int) - (c : Int) < (j : Int) := by omega
  have hlen : 240 * (c - 1) < r.length ∧ r.length ≤ 240 * c := by omega
  clear hcl
  go_enter Try.func19, Try.ntmps19
  go_wp2
  go_loopw [9, 32] (fun out i wr => ∃ (k : Nat) (vs : List Value), k ≤ c ∧ i = .int .i64 k ∧ ORow wr w.heap.size out vs ((List.range k).map (Fr.one seg j r c)) ∧ Below w.heap.size w wr) (fun _ i _ => c - (intOf i).toNat)
  case atStart => exact ⟨0, [], by omega, rfl, ORow.nil _ _, Below.refl _ _⟩
  case round =>
    obtain ⟨k, vs, hk, rfl, hrow, hbel⟩ := hrel
    by_cases hlt : k < c
    · have hlt' : (k : Int) < (c : Int) := by omega
      have hle : (r.length : Int) ≤ (cap : Int) := by have := hv.le; omega
      have hle2 : r.length ≤ cap := hv.le
      by_cases hk0 : k = 0
      · subst hk0
        have hm : (240 : Int) < (r.length : Int) := by omega
        have hkd : (2 : Int) = W8 (Fr.kindOf c 0) := by unfold Fr.kindOf; rw [if_neg c11, if_pos rfl]; decide
        have HKD := Lib.hid hkd
        clear hkd
        have HV := Lib.hid (show Sl lo hi f8 w (.slice ao 240 240) (Fr.part r 0) from by have h := Sl.takes hv 240 240 (by omega) (Nat.le_refl _); rwa [part_zero r 240 (by omega)] at h)
        obtain ⟨i1, hi1, hz1, hz2, hz3⟩ := info_parts info23
        have HR := Lib.hid hrow
        clear hrow
        have hvl : vs.length = 0 := by rw [HR.out.len]; simp
        have HVL := Lib.hid hvl
        clear hvl
        go_wp2_with (first
          | (at_builtin; refine wpList_append_own _ rfl (.tmp 54) (.tmp 66) 30 rfl w.heap.size 23 i1 (.slice none 0 0) 1 24 Try.underlying30 hi1 hz1 hz2 hz3 rfl (by decide) _ vs.length vs rfl ((own_below HR.out.row hb2 (Nat.le_refl _)).alloc _) ⟨w2.heap.size, 0, none⟩ 1 1 [.slice (some ⟨gu, 0, none⟩) 256 cu] rfl rfl (news_alloc w2 [.slice (some ⟨gu, 0, none⟩) 256 cu] 23) (by intro u hu; cases hu with | head => rfl | tail _ h => cases h) (by simp only [maxLen]; have := HVL.out; omega) (by have := HVL.out; omega) (by simp; omega) ?_; intro v3 w3 hown3 hgr3 _; have hb3 := ((hbel.trans (hb2.mono hsz)).alloc (by omega) _).grown hgr3 (by simp; omega) (fun q hq => (HR.out.row.lt q hq).1))
          | (go_at_call 34; refine Calls.mono (sector_at lo hi wr _ (Fr.kindOf c 0) (by exact HKD.out) seg _ (j + 0) (by rw [Nat.add_zero]) (by omega) _ _ _ _ _ _ (Fr.part r 0) (by exact HV.out.below hbel hhi) (by rfl) (by omega) (by omega) (Fr.part_le r 0) (Nat.le_trans hhi hbel.size)) ?_; rintro e w2 ⟨u, rfl, hu, hb2⟩; have hsz := hbel.size; have hsz2 := hb2.size; obtain ⟨gu, cu, hue, _, _⟩ := own_shape hu (by decide); subst hue))
        go_roundw
        case rel =>
          refine ⟨0 + 1, vs ++ [.slice (some ⟨gu, 0, none⟩) 256 cu], by omega, by go_num, ?_, hb3⟩
          rw [List.range_succ, List.map_append]
          exact ORow.push HR.out hb2 (r := Fr.one seg j r c 0) (by rw [Fr.one_len]; exact hu) hsz hown3 hgr3
        case measure => first | (simp [intOf]; done) | (simp [intOf]; omega)
      have k0 : ((k : Int) == 0) = false := by simp; omega
      by_cases hk1 : k = c - 1
      · have k1 : ((k : Int) == (c : Int) - 1) = true := by simp; omega
        rcases (show r.length < (k + 1) * 240 ∨ r.length = (k + 1) * 240 by omega) with hm0 | hm0
        · have hm : (r.length : Int) < ((k : Int) + 1) * 240 := by omega
          have hkd : (4 : Int) = W8 (Fr.kindOf c k) := by unfold Fr.kindOf; rw [if_neg c11, if_neg hk0, if_pos hk1]; decide
          have HKD := Lib.hid hkd
          clear hkd
          have HV := Lib.hid (show Sl lo hi f8 w (.slice (ao.map fun x => x.add (k * 240)) (r.length - k * 240) (r.length - k * 240)) (Fr.part r k) from by have h := Sl.mapsub hv (k * 240) (r.length - k * 240) (r.length - k * 240) (by omega) (Nat.le_refl _) (by intro e; have := hv.none e; omega); rwa [part_eq r k _ (by omega) (by omega)] at h)
          obtain ⟨i1, hi1, hz1, hz2, hz3⟩ := info_parts info23
          have HR := Lib.hid hrow
          clear hrow
          have hvl : vs.length = k := by rw [HR.out.len]; simp
          have HVL := Lib.hid hvl
          clear hvl
          clear hk1
          go_wp2_with (first
            | (at_builtin; refine wpList_append_own _ rfl (.tmp 54) (.tmp 66) 30 rfl w.heap.size 23 i1 (.slice none 0 0) 1 24 Try.underlying30 hi1 hz1 hz2 hz3 rfl (by decide) _ vs.length vs rfl ((own_below HR.out.row hb2 (Nat.le_refl _)).alloc _) ⟨w2.heap.size, 0, none⟩ 1 1 [.slice (some ⟨gu, 0, none⟩) 256 cu] rfl rfl (news_alloc w2 [.slice (some ⟨gu, 0, none⟩) 256 cu] 23) (by intro u hu; cases hu with | head => rfl | tail _ h => cases h) (by simp only [maxLen]; have := HVL.out; omega) (by have := HVL.out; omega) (by simp; omega) ?_; intro v3 w3 hown3 hgr3 _; have hb3 := ((hbel.trans (hb2.mono hsz)).alloc (by omega) _).grown hgr3 (by simp; omega) (fun q hq => (HR.out.row.lt q hq).1))
            | (go_at_call 34; refine Calls.mono (sector_at lo hi wr _ (Fr.kindOf c k) (by exact HKD.out) seg _ (j + k) (by rw [Int.natCast_add]) (by omega) _ _ _ _ _ _ (Fr.part r k) (by exact HV.out.below hbel hhi) (by rfl) (by omega) (by omega) (Fr.part_le r k) (Nat.le_trans hhi hbel.size)) ?_; rintro e w2 ⟨u, rfl, hu, hb2⟩; have hsz := hbel.size; have hsz2 := hb2.size; obtain ⟨gu, cu, hue, _, _⟩ := own_shape hu (by decide); subst hue))
          go_roundw
          case rel =>
            refine ⟨k + 1, vs ++ [.slice (some ⟨gu, 0, none⟩) 256 cu], by omega, by go_num, ?_, hb3⟩
            rw [List.range_succ, List.map_append]
            exact ORow.push HR.out hb2 (r := Fr.one seg j r c k) (by rw [Fr.one_len]; exact hu) hsz hown3 hgr3
          case measure => first | (simp [intOf]; done) | (simp [intOf]; omega)
        · have hm : ¬ (r.length : Int) < ((k : Int) + 1) * 240 := by omega
          have hm2 : ¬ ((k : Int) + 1) * 240 < (r.length : Int) := by omega
          clear em
          have hkd : (4 : Int) = W8 (Fr.kindOf c k) := by unfold Fr.kindOf; rw [if_neg c11, if_neg hk0, if_pos hk1]; decide
          have HKD := Lib.hid hkd
          clear hkd
          have HV := Lib.hid (show Sl lo hi f8 w (.slice (ao.map fun x => x.add (k * 240)) (240) (240)) (Fr.part r k) from by have h := Sl.mapsub hv (k * 240) (240) (240) (by omega) (Nat.le_refl _) (by intro e; have := hv.none e; omega); rwa [part_eq r k _ (by omega) (by omega)] at h)
          obtain ⟨i1, hi1, hz1, hz2, hz3⟩ := info_parts info23
          have HR := Lib.hid hrow
          clear hrow
          have hvl : vs.length = k := by rw [HR.out.len]; simp
          have HVL := Lib.hid hvl
          clear hvl
          have e240 : (k + 1) * 240 - k * 240 = 240 := by omega
          clear hk1 hm0
          go_wp2_with (first
            | (at_builtin; refine wpList_append_own _ rfl (.tmp 54) (.tmp 66) 30 rfl w.heap.size 23 i1 (.slice none 0 0) 1 24 Try.underlying30 hi1 hz1 hz2 hz3 rfl (by decide) _ vs.length vs rfl ((own_below HR.out.row hb2 (Nat.le_refl _)).alloc _) ⟨w2.heap.size, 0, none⟩ 1 1 [.slice (some ⟨gu, 0, none⟩) 256 cu] rfl rfl (news_alloc w2 [.slice (some ⟨gu, 0, none⟩) 256 cu] 23) (by intro u hu; cases hu with | head => rfl | tail _ h => cases h) (by simp only [maxLen]; have := HVL.out; omega) (by have := HVL.out; omega) (by simp; omega) ?_; intro v3 w3 hown3 hgr3 _; have hb3 := ((hbel.trans (hb2.mono hsz)).alloc (by omega) _).grown hgr3 (by simp; omega) (fun q hq => (HR.out.row.lt q hq).1))
            | (go_at_call 34; refine Calls.mono (sector_at lo hi wr _ (Fr.kindOf c k) (by exact HKD.out) seg _ (j + k) (by rw [Int.natCast_add]) (by omega) _ _ _ _ _ _ (Fr.part r k) (by exact HV.out.below hbel hhi) (by rfl) (by omega) (by omega) (Fr.part_le r k) (Nat.le_trans hhi hbel.size)) ?_; rintro e w2 ⟨u, rfl, hu, hb2⟩; have hsz := hbel.size; have hsz2 := hb2.size; obtain ⟨gu, cu, hue, _, _⟩ := own_shape hu (by decide); subst hue))
          go_roundw
          case rel =>
            refine ⟨k + 1, vs ++ [.slice (some ⟨gu, 0, none⟩) 256 cu], by omega, by go_num, ?_, hb3⟩
            rw [List.range_succ, List.map_append]
            exact ORow.push HR.out hb2 (r := Fr.one seg j r c k) (by rw [Fr.one_len]; exact hu) hsz hown3 hgr3
          case measure => first | (simp [intOf]; done) | (simp [intOf]; omega)
      have k1 : ((k : Int) == (c : Int) - 1) = false := by simp; omega
      have hm : ((k : Int) + 1) * 240 < (r.length : Int) := by omega
      have hkd : (3 : Int) = W8 (Fr.kindOf c k) := by unfold Fr.kindOf; rw [if_neg c11, if_neg hk0, if_neg hk1]; decide
      have HKD := Lib.hid hkd
      clear hkd
      have HV := Lib.hid (show Sl lo hi f8 w (.slice (ao.map fun x => x.add (k * 240)) 240 240) (Fr.part r k) from by have h := Sl.mapsub hv (k * 240) 240 240 (by omega) (Nat.le_refl _) (by intro e; have := hv.none e; omega); rwa [part_eq r k _ (by omega) (.inl rfl)] at h)
      obtain ⟨i1, hi1, hz1, hz2, hz3⟩ := info_parts info23
      have HR := Lib.hid hrow
      clear hrow
      have hvl : vs.length = k := by rw [HR.out.len]; simp
      have HVL := Lib.hid hvl
      clear hvl
      have e240 : (k + 1) * 240 - k * 240 = 240 := by omega
      go_wp2_with (first
        | (at_builtin; refine wpList_append_own _ rfl (.tmp 54) (.tmp 66) 30 rfl w.heap.size 23 i1 (.slice none 0 0) 1 24 Try.underlying30 hi1 hz1 hz2 hz3 rfl (by decide) _ vs.length vs rfl ((own_below HR.out.row hb2 (Nat.le_refl _)).alloc _) ⟨w2.heap.size, 0, none⟩ 1 1 [.slice (some ⟨gu, 0, none⟩) 256 cu] rfl rfl (news_alloc w2 [.slice (some ⟨gu, 0, none⟩) 256 cu] 23) (by intro u hu; cases hu with | head => rfl | tail _ h => cases h) (by simp only [maxLen]; have := HVL.out; omega) (by have := HVL.out; omega) (by simp; omega) ?_; intro v3 w3 hown3 hgr3 _; have hb3 := ((hbel.trans (hb2.mono hsz)).alloc (by omega) _).grown hgr3 (by simp; omega) (fun q hq => (HR.out.row.lt q hq).1))
        | (go_at_call 34; refine Calls.mono (sector_at lo hi wr _ (Fr.kindOf c k) (by exact HKD.out) seg _ (j + k) (by rw [Int.natCast_add]) (by omega) _ _ _ _ _ _ (Fr.part r k) (by exact HV.out.below hbel hhi) (by rfl) (by omega) (by omega) (Fr.part_le r k) (Nat.le_trans hhi hbel.size)) ?_; rintro e w2 ⟨u, rfl, hu, hb2⟩; have hsz := hbel.size; have hsz2 := hb2.size; obtain ⟨gu, cu, hue, _, _⟩ := own_shape hu (by decide); subst hue))
      go_roundw
      case rel =>
        refine ⟨k + 1, vs ++ [.slice (some ⟨gu, 0, none⟩) 256 cu], by omega, by go_num, ?_, hb3⟩
        rw [List.range_succ, List.map_append]
        exact ORow.push HR.out hb2 (r := Fr.one seg j r c k) (by rw [Fr.one_len]; exact hu) hsz hown3 hgr3
      case measure => first | (simp [intOf]; done) | (simp [intOf]; omega)
    · have hkc : k = c := by omega
      subst hkc
      go_wp2
      go_ret2
      refine ⟨_, rfl, ⟨vs, ?_⟩, hbel⟩
      have : Fr.splitL seg j r = (List.range k).map (Fr.one seg j r k) := by unfold Fr.splitL; rw [← HC.out]
      rw [this]
      exact hrow
end Go.Proofs.Ytckmeomhcikmoaa
