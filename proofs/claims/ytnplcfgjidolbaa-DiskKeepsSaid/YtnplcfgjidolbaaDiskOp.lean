/- An operation of the disk's: begun or not, counted, done. -/
import Derived.Test.YtnplcfgjidolbaaDiskPut2
namespace Go.Proofs.Ytnplcfgjidolbaa
open Go.RowKit Go.Maps

set_option maxRecDepth 100000 in
theorem op_89 (w : World) (base B lb bm : Nat) (cv : Value) (d : Dsk) (p0 p1 p2 : Nat) (R : Int → World → Prop) (h : Dk w base B lb bm cv d) (hcnt : 0 ≤ d.wr ∧ d.wr < 4611686018427387904) (htrip : d.trip ≤ 9223372036854775807)
    (hstop : (d.begins).2 = false → ∀ w', Dk w' base B lb bm cv (d.begins).1 → Dfr base w w' → R 4 w')
    (hgo : (d.begins).2 = true → ∀ w', Dk w' base B lb bm cv { (d.begins).1 with wr := (d.begins).1.wr + 1 } → Dfr base w w' → (∀ k, k ≠ B → w'.heap[k]? = w.heap[k]?) → Calls Try.prog 89 #[.pointer (some ⟨p0, 0, none⟩), .pointer (some ⟨p1, 0, none⟩), .pointer (some ⟨p2, 0, none⟩)] w' fun e w'' => ∃ k, e = .returned (.int .u16 k) ∧ R k w'') :
    Calls Try.prog 88 #[.pointer (some ⟨B, 0, none⟩), .pointer (some ⟨B, 6, none⟩), .func (.func 89) #[] #[.pointer (some ⟨p0, 0, none⟩), .pointer (some ⟨p1, 0, none⟩), .pointer (some ⟨p2, 0, none⟩)]] w fun e w' => ∃ k, e = .returned (.int .u16 k) ∧ R k w' := by
  obtain ⟨c0, c1, c2, c3, c4, c5, c6, c7, fz⟩ := h.cells
  have HD := Lib.hid h
  have HS := Lib.hid hstop
  have HG := Lib.hid hgo
  have hlo := h.lo.1
  have htop := Lib.hid h.top
  clear h hstop hgo
  cases hd : d.dark
  · rw [hd] at c3
    by_cases ht : d.trip = 0
    · have hbg : d.begins = ({ d with dark := true, trip := -1 }, false) := by unfold Dsk.begins; rw [hd]; simp [ht]
      rw [ht] at c4
      have HB := Lib.hid hbg
      clear hbg
      go_enter Try.func88, Try.ntmps88
      go_wp2
      go_ret
      refine ⟨4, rfl, HS.out (by rw [HB.out]) _ ?_ ?_⟩
      · rw [HB.out]
        exact HD.out.retop (dark := true) (trip := -1) (rd := d.rd) (wr := d.wr) (fl := d.fl) (by rw [heap_setCell_same _ _ _ _ _ _ (heap_setCell_same _ _ _ _ _ _ htop.out)]; rfl) (fun k hk => (heap_setCell_other _ _ _ _ hk).trans (heap_setCell_other _ _ _ _ hk))
      · exact Dfr.one htop.out (.inl rfl) hlo rfl rfl rfl (by simp) (fun k hk => (heap_setCell_other _ _ _ _ hk).trans (heap_setCell_other _ _ _ _ hk))
    · by_cases hp : 0 < d.trip
      · have hbg : d.begins = ({ d with trip := d.trip - 1 }, true) := by unfold Dsk.begins; rw [hd]; simp [ht, hp]
        have hne : (d.trip == 0) = false := by simp [ht]
        have hk : Dk ((w.setCell ⟨B, 4, none⟩ (.int .i64 (d.trip - 1))).setCell ⟨B, 6, none⟩ (.int .i64 (d.wr + 1))) base B lb bm cv { ({ d with trip := d.trip - 1 } : Dsk) with wr := d.wr + 1 } :=
          HD.out.retop (dark := d.dark) (trip := d.trip - 1) (rd := d.rd) (wr := d.wr + 1) (fl := d.fl) (by rw [heap_setCell_same _ _ _ _ _ _ (heap_setCell_same _ _ _ _ _ _ htop.out)]; rfl) (fun k hk => (heap_setCell_other _ _ _ _ hk).trans (heap_setCell_other _ _ _ _ hk))
        have HC := Lib.hid (HG.out (by rw [hbg]) ((w.setCell ⟨B, 4, none⟩ (.int .i64 (d.trip - 1))).setCell ⟨B, 6, none⟩ (.int .i64 (d.wr + 1))) (by rw [hbg]; exact hk) (Dfr.one htop.out (.inl rfl) hlo rfl rfl rfl (by simp) (fun k hk => (heap_setCell_other _ _ _ _ hk).trans (heap_setCell_other _ _ _ _ hk))) (fun k hk => (heap_setCell_other _ _ _ _ hk).trans (heap_setCell_other _ _ _ _ hk)))
        clear hbg hk
        go_enter Try.func88, Try.ntmps88
        go_wp2_with (go_at_call 89; refine Calls.mono HC.out ?_; rintro e w2 ⟨k, rfl, hr⟩; have HR := Lib.hid hr; clear hr)
        go_ret
        exact ⟨_, rfl, HR.out⟩
      · have hbg : d.begins = (d, true) := by unfold Dsk.begins; rw [if_neg (by rw [hd]; decide), if_neg ht, if_neg hp]
        have hne : (d.trip == 0) = false := by simp [ht]
        have hk : Dk (w.setCell ⟨B, 6, none⟩ (.int .i64 (d.wr + 1))) base B lb bm cv { d with wr := d.wr + 1 } :=
          HD.out.retop (dark := d.dark) (trip := d.trip) (rd := d.rd) (wr := d.wr + 1) (fl := d.fl) (by rw [heap_setCell_same _ _ _ _ _ _ htop.out]; rfl) (fun k hk => heap_setCell_other _ _ _ _ hk)
        have HC := Lib.hid (HG.out (by rw [hbg]) (w.setCell ⟨B, 6, none⟩ (.int .i64 (d.wr + 1))) (by rw [hbg]; exact hk) (Dfr.one htop.out (.inl rfl) hlo rfl rfl rfl (by simp) (fun k hk => heap_setCell_other _ _ _ _ hk)) (fun k hk => heap_setCell_other _ _ _ _ hk))
        clear hbg hk
        go_enter Try.func88, Try.ntmps88
        go_wp2_with (go_at_call 89; refine Calls.mono HC.out ?_; rintro e w2 ⟨k, rfl, hr⟩; have HR := Lib.hid hr; clear hr)
        go_ret
        exact ⟨_, rfl, HR.out⟩
  · have hbg : d.begins = (d, false) := by unfold Dsk.begins; rw [hd]; rfl
    rw [hd] at c3
    have HB := Lib.hid hbg
    clear hbg
    go_enter Try.func88, Try.ntmps88
    go_wp2
    go_ret
    exact ⟨4, rfl, HS.out (by rw [HB.out]) _ (by rw [HB.out]; exact HD.out) (Dfr.refl _ _)⟩

set_option maxRecDepth 100000 in
theorem op_92 (w : World) (base B lb bm : Nat) (cv : Value) (d : Dsk) (p0 p1 p2 : Nat) (R : Int → World → Prop) (h : Dk w base B lb bm cv d) (hcnt : 0 ≤ d.rd ∧ d.rd < 4611686018427387904) (htrip : d.trip ≤ 9223372036854775807)
    (hstop : (d.begins).2 = false → ∀ w', Dk w' base B lb bm cv (d.begins).1 → Dfr base w w' → R 4 w')
    (hgo : (d.begins).2 = true → ∀ w', Dk w' base B lb bm cv { (d.begins).1 with rd := (d.begins).1.rd + 1 } → Dfr base w w' → (∀ k, k ≠ B → w'.heap[k]? = w.heap[k]?) → Calls Try.prog 92 #[.pointer (some ⟨p0, 0, none⟩), .pointer (some ⟨p1, 0, none⟩), .pointer (some ⟨p2, 0, none⟩)] w' fun e w'' => ∃ k, e = .returned (.int .u16 k) ∧ R k w'') :
    Calls Try.prog 88 #[.pointer (some ⟨B, 0, none⟩), .pointer (some ⟨B, 5, none⟩), .func (.func 92) #[] #[.pointer (some ⟨p0, 0, none⟩), .pointer (some ⟨p1, 0, none⟩), .pointer (some ⟨p2, 0, none⟩)]] w fun e w' => ∃ k, e = .returned (.int .u16 k) ∧ R k w' := by
  obtain ⟨c0, c1, c2, c3, c4, c5, c6, c7, fz⟩ := h.cells
  have HD := Lib.hid h
  have HS := Lib.hid hstop
  have HG := Lib.hid hgo
  have hlo := h.lo.1
  have htop := Lib.hid h.top
  clear h hstop hgo
  cases hd : d.dark
  · rw [hd] at c3
    by_cases ht : d.trip = 0
    · have hbg : d.begins = ({ d with dark := true, trip := -1 }, false) := by unfold Dsk.begins; rw [hd]; simp [ht]
      rw [ht] at c4
      have HB := Lib.hid hbg
      clear hbg
      go_enter Try.func88, Try.ntmps88
      go_wp2
      go_ret
      refine ⟨4, rfl, HS.out (by rw [HB.out]) _ ?_ ?_⟩
      · rw [HB.out]
        exact HD.out.retop (dark := true) (trip := -1) (rd := d.rd) (wr := d.wr) (fl := d.fl) (by rw [heap_setCell_same _ _ _ _ _ _ (heap_setCell_same _ _ _ _ _ _ htop.out)]; rfl) (fun k hk => (heap_setCell_other _ _ _ _ hk).trans (heap_setCell_other _ _ _ _ hk))
      · exact Dfr.one htop.out (.inl rfl) hlo rfl rfl rfl (by simp) (fun k hk => (heap_setCell_other _ _ _ _ hk).trans (heap_setCell_other _ _ _ _ hk))
    · by_cases hp : 0 < d.trip
      · have hbg : d.begins = ({ d with trip := d.trip - 1 }, true) := by unfold Dsk.begins; rw [hd]; simp [ht, hp]
        have hne : (d.trip == 0) = false := by simp [ht]
        have hk : Dk ((w.setCell ⟨B, 4, none⟩ (.int .i64 (d.trip - 1))).setCell ⟨B, 5, none⟩ (.int .i64 (d.rd + 1))) base B lb bm cv { ({ d with trip := d.trip - 1 } : Dsk) with rd := d.rd + 1 } :=
          HD.out.retop (dark := d.dark) (trip := d.trip - 1) (rd := d.rd + 1) (wr := d.wr) (fl := d.fl) (by rw [heap_setCell_same _ _ _ _ _ _ (heap_setCell_same _ _ _ _ _ _ htop.out)]; rfl) (fun k hk => (heap_setCell_other _ _ _ _ hk).trans (heap_setCell_other _ _ _ _ hk))
        have HC := Lib.hid (HG.out (by rw [hbg]) ((w.setCell ⟨B, 4, none⟩ (.int .i64 (d.trip - 1))).setCell ⟨B, 5, none⟩ (.int .i64 (d.rd + 1))) (by rw [hbg]; exact hk) (Dfr.one htop.out (.inl rfl) hlo rfl rfl rfl (by simp) (fun k hk => (heap_setCell_other _ _ _ _ hk).trans (heap_setCell_other _ _ _ _ hk))) (fun k hk => (heap_setCell_other _ _ _ _ hk).trans (heap_setCell_other _ _ _ _ hk)))
        clear hbg hk
        go_enter Try.func88, Try.ntmps88
        go_wp2_with (go_at_call 92; refine Calls.mono HC.out ?_; rintro e w2 ⟨k, rfl, hr⟩; have HR := Lib.hid hr; clear hr)
        go_ret
        exact ⟨_, rfl, HR.out⟩
      · have hbg : d.begins = (d, true) := by unfold Dsk.begins; rw [if_neg (by rw [hd]; decide), if_neg ht, if_neg hp]
        have hne : (d.trip == 0) = false := by simp [ht]
        have hk : Dk (w.setCell ⟨B, 5, none⟩ (.int .i64 (d.rd + 1))) base B lb bm cv { d with rd := d.rd + 1 } :=
          HD.out.retop (dark := d.dark) (trip := d.trip) (rd := d.rd + 1) (wr := d.wr) (fl := d.fl) (by rw [heap_setCell_same _ _ _ _ _ _ htop.out]; rfl) (fun k hk => heap_setCell_other _ _ _ _ hk)
        have HC := Lib.hid (HG.out (by rw [hbg]) (w.setCell ⟨B, 5, none⟩ (.int .i64 (d.rd + 1))) (by rw [hbg]; exact hk) (Dfr.one htop.out (.inl rfl) hlo rfl rfl rfl (by simp) (fun k hk => heap_setCell_other _ _ _ _ hk)) (fun k hk => heap_setCell_other _ _ _ _ hk))
        clear hbg hk
        go_enter Try.func88, Try.ntmps88
        go_wp2_with (go_at_call 92; refine Calls.mono HC.out ?_; rintro e w2 ⟨k, rfl, hr⟩; have HR := Lib.hid hr; clear hr)
        go_ret
        exact ⟨_, rfl, HR.out⟩
  · have hbg : d.begins = (d, false) := by unfold Dsk.begins; rw [hd]; rfl
    rw [hd] at c3
    have HB := Lib.hid hbg
    clear hbg
    go_enter Try.func88, Try.ntmps88
    go_wp2
    go_ret
    exact ⟨4, rfl, HS.out (by rw [HB.out]) _ (by rw [HB.out]; exact HD.out) (Dfr.refl _ _)⟩

set_option maxRecDepth 100000 in
theorem op_93 (w : World) (base B lb bm : Nat) (cv : Value) (d : Dsk) (p0 : Nat) (R : Int → World → Prop) (h : Dk w base B lb bm cv d) (hcnt : 0 ≤ d.fl ∧ d.fl < 4611686018427387904) (htrip : d.trip ≤ 9223372036854775807)
    (hstop : (d.begins).2 = false → ∀ w', Dk w' base B lb bm cv (d.begins).1 → Dfr base w w' → R 4 w')
    (hgo : (d.begins).2 = true → ∀ w', Dk w' base B lb bm cv { (d.begins).1 with fl := (d.begins).1.fl + 1 } → Dfr base w w' → (∀ k, k ≠ B → w'.heap[k]? = w.heap[k]?) → Calls Try.prog 93 #[.pointer (some ⟨p0, 0, none⟩)] w' fun e w'' => ∃ k, e = .returned (.int .u16 k) ∧ R k w'') :
    Calls Try.prog 88 #[.pointer (some ⟨B, 0, none⟩), .pointer (some ⟨B, 7, none⟩), .func (.func 93) #[] #[.pointer (some ⟨p0, 0, none⟩)]] w fun e w' => ∃ k, e = .returned (.int .u16 k) ∧ R k w' := by
  obtain ⟨c0, c1, c2, c3, c4, c5, c6, c7, fz⟩ := h.cells
  have HD := Lib.hid h
  have HS := Lib.hid hstop
  have HG := Lib.hid hgo
  have hlo := h.lo.1
  have htop := Lib.hid h.top
  clear h hstop hgo
  cases hd : d.dark
  · rw [hd] at c3
    by_cases ht : d.trip = 0
    · have hbg : d.begins = ({ d with dark := true, trip := -1 }, false) := by unfold Dsk.begins; rw [hd]; simp [ht]
      rw [ht] at c4
      have HB := Lib.hid hbg
      clear hbg
      go_enter Try.func88, Try.ntmps88
      go_wp2
      go_ret
      refine ⟨4, rfl, HS.out (by rw [HB.out]) _ ?_ ?_⟩
      · rw [HB.out]
        exact HD.out.retop (dark := true) (trip := -1) (rd := d.rd) (wr := d.wr) (fl := d.fl) (by rw [heap_setCell_same _ _ _ _ _ _ (heap_setCell_same _ _ _ _ _ _ htop.out)]; rfl) (fun k hk => (heap_setCell_other _ _ _ _ hk).trans (heap_setCell_other _ _ _ _ hk))
      · exact Dfr.one htop.out (.inl rfl) hlo rfl rfl rfl (by simp) (fun k hk => (heap_setCell_other _ _ _ _ hk).trans (heap_setCell_other _ _ _ _ hk))
    · by_cases hp : 0 < d.trip
      · have hbg : d.begins = ({ d with trip := d.trip - 1 }, true) := by unfold Dsk.begins; rw [hd]; simp [ht, hp]
        have hne : (d.trip == 0) = false := by simp [ht]
        have hk : Dk ((w.setCell ⟨B, 4, none⟩ (.int .i64 (d.trip - 1))).setCell ⟨B, 7, none⟩ (.int .i64 (d.fl + 1))) base B lb bm cv { ({ d with trip := d.trip - 1 } : Dsk) with fl := d.fl + 1 } :=
          HD.out.retop (dark := d.dark) (trip := d.trip - 1) (rd := d.rd) (wr := d.wr) (fl := d.fl + 1) (by rw [heap_setCell_same _ _ _ _ _ _ (heap_setCell_same _ _ _ _ _ _ htop.out)]; rfl) (fun k hk => (heap_setCell_other _ _ _ _ hk).trans (heap_setCell_other _ _ _ _ hk))
        have HC := Lib.hid (HG.out (by rw [hbg]) ((w.setCell ⟨B, 4, none⟩ (.int .i64 (d.trip - 1))).setCell ⟨B, 7, none⟩ (.int .i64 (d.fl + 1))) (by rw [hbg]; exact hk) (Dfr.one htop.out (.inl rfl) hlo rfl rfl rfl (by simp) (fun k hk => (heap_setCell_other _ _ _ _ hk).trans (heap_setCell_other _ _ _ _ hk))) (fun k hk => (heap_setCell_other _ _ _ _ hk).trans (heap_setCell_other _ _ _ _ hk)))
        clear hbg hk
        go_enter Try.func88, Try.ntmps88
        go_wp2_with (go_at_call 93; refine Calls.mono HC.out ?_; rintro e w2 ⟨k, rfl, hr⟩; have HR := Lib.hid hr; clear hr)
        go_ret
        exact ⟨_, rfl, HR.out⟩
      · have hbg : d.begins = (d, true) := by unfold Dsk.begins; rw [if_neg (by rw [hd]; decide), if_neg ht, if_neg hp]
        have hne : (d.trip == 0) = false := by simp [ht]
        have hk : Dk (w.setCell ⟨B, 7, none⟩ (.int .i64 (d.fl + 1))) base B lb bm cv { d with fl := d.fl + 1 } :=
          HD.out.retop (dark := d.dark) (trip := d.trip) (rd := d.rd) (wr := d.wr) (fl := d.fl + 1) (by rw [heap_setCell_same _ _ _ _ _ _ htop.out]; rfl) (fun k hk => heap_setCell_other _ _ _ _ hk)
        have HC := Lib.hid (HG.out (by rw [hbg]) (w.setCell ⟨B, 7, none⟩ (.int .i64 (d.fl + 1))) (by rw [hbg]; exact hk) (Dfr.one htop.out (.inl rfl) hlo rfl rfl rfl (by simp) (fun k hk => heap_setCell_other _ _ _ _ hk)) (fun k hk => heap_setCell_other _ _ _ _ hk))
        clear hbg hk
        go_enter Try.func88, Try.ntmps88
        go_wp2_with (go_at_call 93; refine Calls.mono HC.out ?_; rintro e w2 ⟨k, rfl, hr⟩; have HR := Lib.hid hr; clear hr)
        go_ret
        exact ⟨_, rfl, HR.out⟩
  · have hbg : d.begins = (d, false) := by unfold Dsk.begins; rw [hd]; rfl
    rw [hd] at c3
    have HB := Lib.hid hbg
    clear hbg
    go_enter Try.func88, Try.ntmps88
    go_wp2
    go_ret
    exact ⟨4, rfl, HS.out (by rw [HB.out]) _ (by rw [HB.out]; exact HD.out) (Dfr.refl _ _)⟩
end Go.Proofs.Ytnplcfgjidolbaa
