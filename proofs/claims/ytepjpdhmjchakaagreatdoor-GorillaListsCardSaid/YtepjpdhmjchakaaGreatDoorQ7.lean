import Derived.Test.YtepjpdhmjchakaaGreatDoorQ1
/- Encode of a good list: its chunks. Condition: the library's table of trailing noughts (TabW). -/
namespace Go.Proofs.YtepjpdhmjchakaaGreatDoor
open Go.RowKit
set_option linter.unusedVariables false

theorem infoCh : (Tryz.prog.info? 26).map (fun i => (i.zero, i.size, i.bytes)) = some (some (.agg #[.int .i64 0, .int .i64 0, .int .i64 0, .slice none 0 0]), 4, 48) := by kernel_rfl

theorem cutFrom_len : ∀ (n : Nat) (l : List Gz.Smp), l.length = n → (Gz.cutFrom l).1.length ≤ n
  | 0, l, hl => by
    obtain rfl := List.eq_nil_of_length_eq_zero hl
    exact Nat.le_refl _
  | n + 1, l, hl => by
    obtain ⟨l, s, rfl⟩ := Gz.snoc_ex l (by intro e; subst e; simp at hl)
    have ih := cutFrom_len n l (by simpa using hl)
    rw [Gz.cutFrom_snoc]
    unfold Gz.cutStep
    split
    · simp; omega
    · exact Nat.le_succ_of_le ih

set_option maxHeartbeats 4000000 in
set_option maxRecDepth 100000 in
theorem encode_any (w : World) (ao : Option Addr) (cap : Nat) (l : List Gz.Smp) (h : Sms w.heap.size w ao cap l) (hg : Gz.Good l) (hn : l.length ≤ 2000) (hT : TabW w) :
    Calls Tryz.prog 6 #[.slice ao l.length cap] w fun e w' => ∃ v us, e = .returned (.tuple #[v, .int .u16 0]) ∧ CRow w' w.heap.size v us (Gz.cut l) ∧ Below w.heap.size w w' := by
  obtain ⟨i0, hi0, hz0, hz1, hz2⟩ := info_parts infoCh
  have hlb : 1 < w.heap.size := block_lt_of_cell (hT 0 (by omega))
  have H := Lib.hid h
  have HG := Lib.hid hg
  have HT := Lib.hid hT
  clear h hg hT
  go_enter Tryz.func6, Tryz.ntmps6
  go_wp2
  go_loopw [4, 13] (fun o i wr => ∃ k : Nat, k ≤ l.length ∧ i = .int .i64 k ∧ o = .int .u16 0 ∧ Below w.heap.size w wr) (fun _ i _ => l.length - (intOf i).toNat)
  case atStart => exact ⟨0, Nat.zero_le _, rfl, rfl, Below.refl _ _⟩
  case round =>
    obtain ⟨k, hk, rfl, rfl, hbel⟩ := hrel
    have HB := Lib.hid hbel
    have hsz := hbel.size
    have hll := H.out.len
    have HW := Lib.hid (H.out.below hbel (Nat.le_refl _))
    clear hbel
    by_cases h1 : k < l.length
    · obtain ⟨b, off, rfl, hbl, hcell⟩ := HW.out.cells (by intro e; subst e; simp at h1)
      have hc1 := (hcell k h1).c0
      have hd1 := (hcell k h1).c1
      have hfar := HG.out.far l[k] (List.getElem_mem h1)
      have i1 : (0 : Int) ≤ (k : Int) ∧ (k : Int) < (l.length : Int) := by omega
      have e1 : decide (-Gz.far ≤ l[k].t ∧ l[k].t ≤ Gz.far) = true := decide_eq_true ⟨hfar.1, hfar.2.1⟩
      have HE := Lib.hid e1
      have HHC := Lib.hid hcell
      clear hcell e1
      by_cases h0 : k = 0
      · subst h0
        rw [Nat.zero_mul, Nat.add_zero] at hc1 hd1
        generalize l[0] = s at *
        go_wp2_with (go_at_call 21; refine (within_any _ s.t).mono ?_; rintro e wz ⟨rfl, hw⟩; rw [HE.out]; subst hw)
        go_quiet (fail)
        go_wp2
        exact ⟨⟨1, by omega, rfl, rfl, ((HB.out.alloc hsz _).trans ((drewN_b _ _).mono (by simp; omega)))⟩, by simp [intOf]; omega⟩
      · obtain ⟨j, rfl⟩ : ∃ j, k = j + 1 := ⟨k - 1, by omega⟩
        have hj : j < l.length := by omega
        have hr := HG.out.rise j l[j] l[j + 1] (List.getElem?_eq_getElem hj) (List.getElem?_eq_getElem h1)
        have hc2 := (HHC.out j hj).c0
        have gt : decide (l[j + 1].t ≤ l[j].t) = false := decide_eq_false (by omega)
        have gp : decide (0 < ((j + 1 : Nat) : Int)) = true := decide_eq_true (by omega)
        have e2 : IntKind.i64.wrap (j : Int) = (j : Int) := by rw [IntKind.wrap_i64]; omega
        have i2 : (0 : Int) ≤ (j : Int) ∧ (j : Int) < (l.length : Int) := by omega
        generalize l[j + 1] = s at *
        generalize l[j] = s0 at *
        go_wp2_with (go_at_call 21; refine (within_any _ s.t).mono ?_; rintro e wz ⟨rfl, hw⟩; rw [HE.out]; subst hw)
        have hc3 : (wr.alloc (.cells #[.int .i64 s.t, .int .u64 (s.v : Int)] 79)).cell? ⟨b, off + j * 2, none⟩ = some (.int .i64 s0.t) := (Below.cell ((Below.refl wr.heap.size wr).alloc (Nat.le_refl _) _) (by show b < _; omega)).trans hc2
        go_quiet (fail)
        go_wp2
        exact ⟨⟨j + 1 + 1, by omega, by push_cast; rfl, rfl, ((HB.out.alloc hsz _).trans ((drewN_b _ _).mono (by simp; omega)))⟩, by simp [intOf]; omega⟩
    · have e : k = l.length := by omega
      subst e
      go_wp2_with fail
      refine (gnew_any _).mono ?_
      rintro e w1 ⟨rfl, ha1, hb1⟩
      have HEN1 := Lib.hid (En.fresh (CRow.nil wr w.heap.size) hsz hb1 ha1)
      have HB1 := Lib.hid (HB.out.trans (hb1.mono hsz))
      clear ha1 hb1
      go_wp2_with fail
      go_loopw [7, 8, 42] (fun v p i wr2 => ∃ (k P B : Nat) (r : Option Nat) (us : List Value), k ≤ l.length ∧ i = .int .i64 k ∧ p = .pointer (some ⟨P, 0, none⟩) ∧ En wr2 w.heap.size v us P B r (Gz.cutFrom (l.take k)) ∧ Below w.heap.size w wr2) (fun _ _ i _ => l.length - (intOf i).toNat)
      case atStart => exact ⟨0, _, _, _, _, Nat.zero_le _, rfl, rfl, HEN1.out, HB1.out⟩
      case round =>
        obtain ⟨k, P, B, r, us, hk, rfl, rfl, hen, hbel⟩ := hrel
        have hsz := hbel.size
        have HW := Lib.hid (H.out.below hbel (Nat.le_refl _))
        have HA := Lib.hid (Gz.at_all _ (l.take k) rfl (Gz.Good.pre (m := l.drop k) (by rw [List.take_append_drop]; exact HG.out)))
        have hcl := cutFrom_len _ (l.take k) rfl
        have HCL := Lib.hid (show (Gz.cutFrom (l.take k)).1.length ≤ 2000 by simp at hcl; omega)
        clear hcl
        by_cases h1 : k < l.length
        · obtain ⟨b, off, rfl, hbl, hcell⟩ := HW.out.cells (by intro e; subst e; simp at h1)
          have hc1 := (hcell k h1).c0
          have hd1 := (hcell k h1).c1
          have hv := (hcell k h1).v
          have i1 : (0 : Int) ≤ (k : Int) ∧ (k : Int) < (l.length : Int) := by omega
          have HS := Lib.hid (show Gz.cutFrom (l.take (k + 1)) = Gz.cutStep (Gz.cutFrom (l.take k)) l[k] by rw [List.take_succ_eq_append_getElem h1, Gz.cutFrom_snoc])
          have HAP := Lib.hid (HA.out.app (s := l[k]) (Gz.Good.pre (m := l.drop (k + 1)) (by rw [← List.take_succ_eq_append_getElem h1, List.take_append_drop]; exact HG.out)))
          clear hcell HA HW
          generalize l[k] = s at *
          generalize Gz.cutFrom (l.take k) = st at *
          have hb2 : Below w.heap.size w (wr.alloc (.cells #[.int .i64 s.t, .int .u64 (s.v : Int)] 79)) := hbel.alloc hsz _
          have hb20 : Below wr.heap.size wr (wr.alloc (.cells #[.int .i64 s.t, .int .u64 (s.v : Int)] 79)) := (Below.refl _ _).alloc (Nat.le_refl _) _
          have hen2 := hen.below hb20
          have hsb := heap_alloc_new wr (.cells #[.int .i64 s.t, .int .u64 (s.v : Int)] 79)
          obtain ⟨-, -, -, -, -, c5, -, -, -, -⟩ := hen2.ap.cells
          have hsz2 : w.heap.size ≤ (wr.alloc (.cells #[.int .i64 s.t, .int .u64 (s.v : Int)] 79)).heap.size := by simp; omega
          have hqlt : wr.heap.size < (wr.alloc (.cells #[.int .i64 s.t, .int .u64 (s.v : Int)] 79)).heap.size := by simp
          obtain ⟨q0, q1⟩ := box2 hsb
          have HEN2 := Lib.hid hen2
          have HB2 := Lib.hid hb2
          have HSB := Lib.hid hsb
          have HEN := Lib.hid hen
          by_cases h120 : st.2.n = 120
          · rw [h120] at c5
            have c5 : (wr.alloc (.cells #[.int .i64 s.t, .int .u64 (s.v : Int)] 79)).cell? ⟨P, 5, none⟩ = some (.int .i64 120) := c5
            have hnp : 0 < st.2.n := by omega
            have H120 := Lib.hid h120
            clear h120
            clear hen hbel hen2 hb2 hb20 hsb
            go_wp2_with fail
            refine (chunk_any HEN2.out.ap HAP.out.2.1 hnp).mono ?_
            rintro e w3 ⟨cv, rfl, hcv, hb3⟩
            obtain ⟨ac, cc, rfl⟩ := own_slice hcv
            have HEN3 := Lib.hid (HEN2.out.below hb3)
            have HB3 := Lib.hid (HB2.out.trans (hb3.mono hsz2))
            have HCV := Lib.hid hcv
            have HBC := Lib.hid hb3
            clear hcv hb3
            unfold chV
            go_wp2_with (at_builtin; refine wpList_append_own _ rfl (.tmp 51) (.tmp 54) 23 rfl w.heap.size 26 i0 (.agg #[.int .i64 0, .int .i64 0, .int .i64 0, .slice none 0 0]) 4 48 Tryz.underlying23 hi0 hz0 hz1 hz2 rfl (by decide) _ _ _ rfl (HEN3.out.row.row.alloc _) ⟨w3.heap.size, 0, none⟩ 1 1 [.int .i64 st.2.first, .int .i64 st.2.t, .int .i64 (st.2.n : Int), .slice ac (Bt.pack st.2.L).length cc] rfl rfl (news_alloc w3 [.int .i64 st.2.first, .int .i64 st.2.t, .int .i64 (st.2.n : Int), .slice ac (Bt.pack st.2.L).length cc] 26) (by simp [Value.oneCell']) (by have := HCL.out; unfold maxLen; omega) (by have := HCL.out; omega) (by have := HB3.out.size; simp; omega) ?_; intro v4 w4 hown4 hgrow4 _; have HO4 := Lib.hid hown4; have HG4 := Lib.hid hgrow4; clear hown4 hgrow4)
            have HROW := Lib.hid (HEN2.out.lay (c := Gz.ckOf st.2) (HBC.out.alloc HBC.out.size _) (HCV.out.alloc _) HO4.out HG4.out)
            have hs3 := HB3.out.size
            have hs4 : w3.heap.size + 1 ≤ w4.heap.size := by have := HG4.out.size; simpa using this
            have hs23 := HBC.out.size
            have HB4 := Lib.hid ((HB3.out.alloc HB3.out.size _).grown HG4.out (by simp; omega) (fun k hk => (HEN2.out.row.lt.1 k hk).1))
            refine (gnew_any _).mono ?_
            rintro e w5 ⟨rfl, ha5, hb5⟩
            have HEN5 := Lib.hid (En.fresh HROW.out (by omega) hb5 ha5)
            have HB5 := Lib.hid (HB4.out.trans (hb5.mono (by omega)))
            have hsb5 : w5.heap[wr.heap.size]? = some (.cells #[.int .i64 s.t, .int .u64 (s.v : Int)] 79 (0, 0)) :=
              (hb5.block _ (by omega)).trans ((HG4.out.block _ (by simp; omega) (fun e => by have := (HEN.out.row.lt.1 wr.heap.size (by exact e.symm)).2; omega)).trans ((Below.heap_alloc _ _ _ (by omega)).trans ((HBC.out.block _ hqlt).trans HSB.out)))
            obtain ⟨q0, q1⟩ := box2 hsb5
            clear ha5 hb5 hsb5
            go_wp2_with fail
            have hap := HAP.out
            rw [if_pos H120.out] at hap
            refine Calls.mono (by exact app_any HEN5.out.ap hap.2.2 s hv (HT.out.below HB5.out hlb) (by omega) (by omega) (fun e => by cases e)) ?_
            rintro e w6 ⟨rfl, r6, ha6, hg6, hn6⟩
            rw [hap.1] at ha6 ⊢
            have HEN6 := Lib.hid (HEN5.out.app hg6 ha6 hn6)
            have HB6 := Lib.hid (HB5.out.trans (hg6.below HB5.out.size HEN5.out.loP HEN5.out.loB HEN5.out.lor))
            clear ha6 hg6 hn6 hap q0 q1
            go_wp2_with fail
            refine ⟨⟨k + 1, w4.heap.size + 1, w4.heap.size, r6, us ++ [.slice ac (Bt.pack st.2.L).length cc], by omega, by push_cast; rfl, rfl, ?_, HB6.out⟩, by simp [intOf]; omega⟩
            rw [HS.out]
            unfold Gz.cutStep
            rw [if_pos H120.out]
            exact HEN6.out
          · have gm : ((st.2.n : Int) == 120) = false := by simp; omega
            clear hen hbel hen2 hb2 hb20 hsb
            go_wp2_with fail
            generalize wr.alloc (.cells #[.int .i64 s.t, .int .u64 (s.v : Int)] 79) = w2 at *
            have hap := HAP.out
            rw [if_neg h120] at hap
            refine Calls.mono (by exact app_any HEN2.out.ap hap.2.1 s hv (HT.out.below HB2.out hlb) (by have := HEN2.out.loP; omega) (by have := HEN2.out.loB; omega) (fun e => by have := HEN2.out.lor 1 e; omega)) ?_
            rintro e w3 ⟨rfl, r3, ha3, hg3, hn3⟩
            rw [hap.1] at ha3 ⊢
            have HEN3 := Lib.hid (HEN2.out.app hg3 ha3 hn3)
            have HB3 := Lib.hid (HB2.out.trans (hg3.below hsz2 HEN2.out.loP HEN2.out.loB HEN2.out.lor))
            clear ha3 hg3 hn3 hap q0 q1 c5 hc1 hd1
            go_wp2_with fail
            refine ⟨⟨k + 1, P, B, r3, us, by omega, by push_cast; rfl, rfl, ?_, HB3.out⟩, by simp [intOf]; omega⟩
            rw [HS.out]
            unfold Gz.cutStep
            rw [if_neg h120]
            exact HEN3.out
        · have e : k = l.length := by omega
          subst e
          rw [List.take_length] at hen HA HCL
          have HCUT := Lib.hid (show Gz.cut l = if 0 < (Gz.cutFrom l).2.n then (Gz.cutFrom l).1 ++ [Gz.ckOf (Gz.cutFrom l).2] else (Gz.cutFrom l).1 from rfl)
          have hok : (Gz.cutFrom l).2.ok := by
            obtain ⟨Q, c, _, _, hc, _, e⟩ := HA.out
            rw [e]
            exact Gz.all_ok hc
          clear HA HW
          generalize Gz.cutFrom l = st at *
          obtain ⟨-, -, -, -, -, c5, -, -, -, -⟩ := hen.ap.cells
          have HEN := Lib.hid hen
          have HBW := Lib.hid hbel
          have HOK := Lib.hid hok
          clear hen hbel hok
          by_cases hp : 0 < st.2.n
          · have gp : decide (0 < (st.2.n : Int)) = true := decide_eq_true (by omega)
            go_wp2_with fail
            refine (chunk_any HEN.out.ap HOK.out hp).mono ?_
            rintro e w3 ⟨cv, rfl, hcv, hb3⟩
            obtain ⟨ac, cc, rfl⟩ := own_slice hcv
            have HEN3 := Lib.hid (HEN.out.below hb3)
            have HB3 := Lib.hid (HBW.out.trans (hb3.mono hsz))
            have HCV := Lib.hid hcv
            have HBC := Lib.hid hb3
            clear hcv hb3
            unfold chV
            go_wp2_with (at_builtin; refine wpList_append_own _ rfl (.tmp 66) (.tmp 69) 23 rfl w.heap.size 26 i0 (.agg #[.int .i64 0, .int .i64 0, .int .i64 0, .slice none 0 0]) 4 48 Tryz.underlying23 hi0 hz0 hz1 hz2 rfl (by decide) _ _ _ rfl (HEN3.out.row.row.alloc _) ⟨w3.heap.size, 0, none⟩ 1 1 [.int .i64 st.2.first, .int .i64 st.2.t, .int .i64 (st.2.n : Int), .slice ac (Bt.pack st.2.L).length cc] rfl rfl (news_alloc w3 [.int .i64 st.2.first, .int .i64 st.2.t, .int .i64 (st.2.n : Int), .slice ac (Bt.pack st.2.L).length cc] 26) (by simp [Value.oneCell']) (by have := HCL.out; unfold maxLen; omega) (by have := HCL.out; omega) (by have := HB3.out.size; simp; omega) ?_; intro v4 w4 hown4 hgrow4 _; have HO4 := Lib.hid hown4; have HG4 := Lib.hid hgrow4; clear hown4 hgrow4)
            have HROW := Lib.hid (HEN.out.lay (c := Gz.ckOf st.2) (HBC.out.alloc HBC.out.size _) (HCV.out.alloc _) HO4.out HG4.out)
            have hs3 := HB3.out.size
            have hs4 : w3.heap.size + 1 ≤ w4.heap.size := by have := HG4.out.size; simpa using this
            have hs23 := HBC.out.size
            have HB4 := Lib.hid ((HB3.out.alloc HB3.out.size _).grown HG4.out (by simp; omega) (fun k hk => (HEN.out.row.lt.1 k hk).1))
            go_ret2
            rw [HCUT.out, if_pos hp]
            exact ⟨_, _, rfl, HROW.out, HB4.out⟩
          · have gp : decide (0 < (st.2.n : Int)) = false := decide_eq_false (by omega)
            go_wp2_with fail
            go_ret2
            rw [HCUT.out, if_neg hp]
            exact ⟨_, _, rfl, HEN.out.row, HBW.out⟩
end Go.Proofs.YtepjpdhmjchakaaGreatDoor
