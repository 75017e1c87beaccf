/- The document's appender: Append, Chunk; and the program's Chunk, also of none. Condition: the document's list of buckets (BkAt). -/
import Derived.Test.YtepjpdhmjchakaaDoorRz2
import Derived.Deep.AppendLies
import Derived.Deep.RegionLaw
namespace Go.Proofs.YtepjpdhmjchakaaDoor
open Go.RowKit
set_option linter.unusedVariables false

theorem infoSm' : (Tryd.prog.info? 70).map (fun i => (i.zero, i.size, i.bytes)) = some (some (.agg #[.int .i64 0, .int .u64 0]), 2, 16) := by kernel_rfl
/-- The document's appender at X: the samples l. -/
structure Xa (w : World) (X base : Nat) (v : Value) (l : List Gz.Smp) : Prop where
  top : w.heap[X]? = some (.cells #[v] 28 (0, 0))
  row : w.ownsRow base 70 2 v l.length (smCs l)
section
variable {w w' : World} {X base : Nat} {v : Value} {l : List Gz.Smp}
theorem Xa.below (h : Xa w X base v l) (hb : Below w.heap.size w w') : Xa w' X base v l :=
  ⟨(hb.block X (heap_lt h.top)).trans h.top, own_of_same h.row (fun k hk => hb.block k (h.row.lt k hk).2)⟩
theorem Xa.ne (h : Xa w X base v l) : v.ownBlock ≠ some X := fun e => by
  obtain ⟨cs, hc⟩ := own_block h.row X e
  rw [h.top] at hc
  injection hc with hc
  injection hc with _ hc
  exact absurd hc (by decide)
theorem Xa.cell (h : Xa w X base v l) : w.cell? ⟨X, 0, none⟩ = some v ∧ w.frozen? ⟨X, 0, none⟩ = false :=
  ⟨(cell_of_row _ _ _ _ _ _ h.top).trans rfl, frozen_of_row _ _ _ _ _ h.top⟩
theorem Xa.sms (h : Xa w X base v l) (hf : Gz.Fine l) : ∃ ao cap, v = .slice ao l.length cap ∧ Sms w.heap.size w ao cap l :=
  Sms.owns h.row (by have := hf.len; unfold maxLen; omega) (fun s hs => by have := hf.far s hs; unfold Gz.far at this; omega)
end
theorem cell_alloc {w : World} {a : Addr} {v : Value} {o : Obj} (h : w.cell? a = some v) : (w.alloc o).cell? a = some v :=
  (World.cell?_of_block (Below.heap_alloc _ _ _ (block_lt_of_cell h))).trans h

set_option maxHeartbeats 1000000 in
set_option maxRecDepth 100000 in
theorem xapp_range (w : World) (X : Nat) (s : Gz.Smp) (hs : s.t < -Gz.far ∨ Gz.far < s.t) :
    Calls Tryd.prog 10 #[.pointer (some ⟨X, 0, none⟩), smV s] w fun e w' => e = .returned (.int .u16 2) ∧ Below w.heap.size w w' := by
  unfold smV
  unfold Gz.far at hs
  by_cases h1 : s.t < -9007199254740992
  · have g1 : decide (s.t < -9007199254740992) = true := decide_eq_true h1
    go_enter Tryd.func10, Tryd.ntmps10
    go_wp2
    go_ret
    exact ⟨rfl, (Below.refl _ _).alloc (Nat.le_refl _) _⟩
  · have h2 : 9007199254740992 < s.t := by omega
    have g1 : decide (s.t < -9007199254740992) = false := decide_eq_false h1
    have g2 : decide (9007199254740992 < s.t) = true := decide_eq_true h2
    go_enter Tryd.func10, Tryd.ntmps10
    go_wp2
    go_ret
    exact ⟨rfl, (Below.refl _ _).alloc (Nat.le_refl _) _⟩

/-- Behind the append. -/
theorem xapp_end {w Wa w5 w6 : World} {X base : Nat} {ao : Option Addr} {cap g cg : Nat} {l : List Gz.Smp} {s : Gz.Smp} {o : Obj} (ha : Xa w5 X base (.slice ao l.length cap) l) (hb5 : Below Wa.heap.size Wa w5) (hba : Below w.heap.size w Wa) (hsa : Wa.heap.size = w.heap.size + 1)
    (ho : w6.ownsRow base 70 2 (.slice (some ⟨g, 0, none⟩) (l.length + 1) cg) (l.length + 1) (smCs l ++ [.int .i64 s.t, .int .u64 (s.v : Int)])) (hg : (w5.drew.alloc o).grownBy w6 (Value.slice ao l.length cap).ownBlock)
    (hX : w6.heap[X]? = some (.cells #[.slice ao l.length cap] 28 (0, 0))) (ht : (Value.slice ao l.length cap).ownBlock = some g ∨ g = (w5.drew.alloc o).heap.size) :
    ∃ v', Xa (w6.setCell ⟨X, 0, none⟩ (.slice (some ⟨g, 0, none⟩) (l.length + 1) cg)) X base v' (l ++ [s]) ∧ Gro X (Value.slice ao l.length cap).ownBlock w (w6.setCell ⟨X, 0, none⟩ (.slice (some ⟨g, 0, none⟩) (l.length + 1) cg)) ∧ Anew w (Value.slice ao l.length cap).ownBlock v'.ownBlock := by
  have hs5 := hb5.size
  have hgX : g ≠ X := fun e => by
    subst e
    obtain ⟨cs, hc⟩ := own_block ho g rfl
    rw [hX] at hc
    injection hc with hc
    injection hc with _ hc
    exact absurd hc (by decide)
  refine ⟨.slice (some ⟨g, 0, none⟩) (l.length + 1) cg, ⟨?_, ?_⟩, ?_, ?_⟩
  · rw [heap_setCell_same _ _ _ _ _ _ hX]; rfl
  · rw [List.length_append, smCs_snoc]
    exact own_of_same ho (fun k hk => heap_setCell_other _ _ _ _ (by injection hk with hk; exact fun e => hgX (hk.trans e)))
  · refine ⟨?_, ?_, ?_, ?_, fun k hk h1 h2 => ?_⟩
    · exact hg.os.trans ((hb5.os).trans hba.os)
    · exact hg.tape.trans ((hb5.tape).trans hba.tape)
    · exact hg.output.trans ((hb5.output).trans hba.output)
    · have := hg.size
      simp at this ⊢
      omega
    · rw [heap_setCell_other _ _ _ _ h1, hg.block k (by simp; omega) h2, Below.heap_alloc _ _ _ (by show k < w5.heap.size; omega)]
      exact (hb5.block k (by omega)).trans (hba.block k hk)
  · intro k hk
    injection hk with hk
    have hk2 : g = k := hk
    rcases ht with h6 | h6
    · left; rw [h6, hk2]
    · right
      have : w5.drew.heap.size = w5.heap.size := rfl
      simp at h6
      omega

set_option maxHeartbeats 2000000 in
set_option maxRecDepth 100000 in
theorem xapp_put {w : World} {X base : Nat} {v : Value} {l : List Gz.Smp} (h : Xa w X base v l) (hf : Gz.Fine l) (hb : base ≤ w.heap.size) (s : Gz.Smp) (hs : ¬ (s.t < -Gz.far ∨ Gz.far < s.t)) (hcond : ¬ (0 < l.length ∧ s.t ≤ (Gz.Ap.all l).t)) (hl120 : l.length < 120) :
    Calls Tryd.prog 10 #[.pointer (some ⟨X, 0, none⟩), smV s] w fun e w' => e = .returned (.int .u16 0) ∧ ∃ v', Xa w' X base v' (l ++ [s]) ∧ Gro X v.ownBlock w w' ∧ Anew w v.ownBlock v'.ownBlock := by
  obtain ⟨i0, hi0, hz0, hz1, hz2⟩ := info_parts infoSm'
  have g1 : decide (s.t < -9007199254740992) = false := decide_eq_false (by unfold Gz.far at hs; omega)
  have g2 : decide (9007199254740992 < s.t) = false := decide_eq_false (by unfold Gz.far at hs; omega)
  obtain ⟨Wa, hWa⟩ : ∃ Wa, w.alloc (.cells #[.int .i64 s.t, .int .u64 (s.v : Int)] 70) = Wa := ⟨_, rfl⟩
  have hba : Below w.heap.size w Wa := by rw [← hWa]; exact (Below.refl _ _).alloc (Nat.le_refl _) _
  have hsa : Wa.heap.size = w.heap.size + 1 := by rw [← hWa]; simp
  have hbx : Wa.heap[w.heap.size]? = some (.cells #[.int .i64 s.t, .int .u64 (s.v : Int)] 70 (0, 0)) := by rw [← hWa]; exact heap_alloc_new w _
  have hXl := heap_lt h.top
  have hvl : ∀ k, v.ownBlock = some k → k < w.heap.size := fun k hk => (h.row.lt k hk).2
  have hne := h.ne
  obtain ⟨ao, cap, rfl, hsm⟩ := (h.below hba).sms hf
  have hlen := hf.len
  have ha := h.below hba
  obtain ⟨x0, x1⟩ := ha.cell
  obtain ⟨b0, b1⟩ := box2 hbx
  have HA := Lib.hid ha
  have HBA := Lib.hid hba
  have HBX := Lib.hid hbx
  have HF := Lib.hid hf
  have HNE := Lib.hid hne
  have HVL := Lib.hid hvl
  clear h hba ha hbx hf hne hvl
  unfold smV
  have gm : decide ((120 : Int) ≤ (l.length : Int)) = false := decide_eq_false (by omega)
  by_cases h0 : l.length = 0
  · obtain rfl := List.eq_nil_of_length_eq_zero h0
    clear h0 gm
    go_enter Tryd.func10, Tryd.ntmps10
    go_wp2_with fail
    go_quiet (fail)
    go_wp2_with fail
    generalize HW5 : World.drewN _ _ = w5 at *
    have hb5 : Below Wa.heap.size Wa w5 := by rw [← HW5]; exact drewN_b _ _
    have ha5 := HA.out.below hb5
    have hx5 := (hb5.block w.heap.size (by omega)).trans HBX.out
    have hs5 : w5.heap.size = Wa.heap.size := by rw [← HW5]; rfl
    have hX5 : X < w5.heap.size := by omega
    have hw5 : w.heap.size < w5.heap.size := by omega
    have HSA := Lib.hid hsa
    obtain ⟨x0, x1⟩ := ha5.cell
    obtain ⟨b0, b1⟩ := box2 hx5
    have HA5 := Lib.hid ha5
    have HB5 := Lib.hid hb5
    have HBX5 := Lib.hid hx5
    clear HW5 hb5 ha5 hx5 hs5 hsa
    have y0 := cell_alloc (o := .cells #[.int .i64 s.t, .int .u64 (s.v : Int)] 70) (show w5.drew.cell? ⟨X, 0, none⟩ = _ from x0)
    refine wp_region_held_drew (S := fun w' => w'.cell? ⟨w.heap.size, 0, none⟩ = some (.int .i64 s.t) ∧ w'.cell? ⟨w.heap.size, 1, none⟩ = some (.int .u64 (s.v : Int))) (by kernel_rfl) ⟨b0, b1⟩ (fun hHeld => ?_)
    refine wpAnyH_take (i := 0) (oi := ⟨some 43, _, _, _, _, _⟩) (v := ?v1) rfl (by kernel_rfl) (by kernel_rfl) (by kernel_rfl) (fun _ _ _ h => h) (Or.inl ⟨by rfl, ?hy1⟩) (by assumption) ?_
    case hy1 => (intro w' hSw; (try dsimp only at hSw); go_simp <;> with_reducible rfl)
    try simp only [Act.put, List.setIfInBounds_toArray, List.set_cons_zero, List.set_cons_succ]
    refine wpAnyH_take (i := 1) (oi := ⟨some 44, _, _, _, _, _⟩) (v := ?v2) rfl (by kernel_rfl) (by kernel_rfl) (by kernel_rfl) (fun _ _ _ h => h) (Or.inl ⟨by rfl, ?hy2⟩) (by assumption) ?_
    case hy2 => (intro w' hSw; (try dsimp only at hSw); go_simp <;> with_reducible rfl)
    try simp only [Act.put, List.setIfInBounds_toArray, List.set_cons_zero, List.set_cons_succ]
    refine wpAnyH_take (i := 2) (oi := ⟨some 45, _, _, _, _, _⟩) (v := ?v3) rfl (by kernel_rfl) (by kernel_rfl) (by kernel_rfl) (fun _ _ _ h => h) (Or.inl ⟨by rfl, ?hy3⟩) (by assumption) ?_
    case hy3 => (intro w' hSw; (try dsimp only at hSw); go_simp <;> with_reducible rfl)
    try simp only [Act.put, List.setIfInBounds_toArray, List.set_cons_zero, List.set_cons_succ]
    refine wpAnyH_take (i := 3) (oi := ⟨some 46, _, _, _, _, _⟩) (v := ?v4) rfl (by kernel_rfl) (by kernel_rfl) (by kernel_rfl) (fun _ _ _ h => h) (Or.inl ⟨by rfl, ?hy4⟩) (by assumption) ?_
    case hy4 => (intro w' hSw; (try dsimp only at hSw); go_simp <;> with_reducible rfl)
    try simp only [Act.put, List.setIfInBounds_toArray, List.set_cons_zero, List.set_cons_succ]
    refine wpAnyH_take (i := 5) (oi := ⟨some 48, _, _, _, _, _⟩) (v := ?v5) rfl (by kernel_rfl) (by kernel_rfl) (by kernel_rfl) (fun _ _ _ h => h) (Or.inl ⟨by rfl, ?hy5⟩) (by assumption) ?_
    case hy5 => (intro w' hSw; (try dsimp only at hSw); go_simp <;> with_reducible rfl)
    try simp only [Act.put, List.setIfInBounds_toArray, List.set_cons_zero, List.set_cons_succ]
    refine wpAnyH_ready (rs := [4, 6]) (by kernel_rfl) (by simp) ?_
    refine AllReadyH.cons (o := ⟨some 47, _, _, _, _, _⟩) rfl (fun K hK => ?_) (AllReadyH.cons (o := ⟨some 49, _, _, _, _, _⟩) rfl (fun K hK => ?_) AllReadyH.nil)
    · go_simp
      refine hK.out _ _ ⟨b0, b1⟩ (fun hHeld => ?_)
      clear hK K
      try simp only [Act.put, List.setIfInBounds_toArray, List.set_cons_zero, List.set_cons_succ]
      refine wpAnyH_ready (rs := [6]) (by kernel_rfl) (by simp) ?_
      refine AllReadyH.cons (o := ⟨some 49, _, _, _, _, _⟩) rfl (fun K hK => ?_) AllReadyH.nil
      go_simp
      refine hK.out _ _ ⟨cell_alloc b0, cell_alloc b1⟩ (fun hHeld => ?_)
      clear hK K
      try simp only [Act.put, List.setIfInBounds_toArray, List.set_cons_zero, List.set_cons_succ]
      refine wpAnyH_ready (rs := [7]) (by kernel_rfl) (by simp) ?_
      refine AllReadyH.cons (o := ⟨some 50, _, _, _, _, _⟩) rfl (fun K hK => ?_) AllReadyH.nil
      refine step_append_lies _ rfl (.tmp 47) (.tmp 49) 22 rfl base 70 i0 (.agg #[.int .i64 0, .int .u64 0]) 2 16 Tryd.underlying22 hi0 hz0 hz1 hz2 rfl (by decide) (.slice ao ([] : List Gz.Smp).length cap) ([] : List Gz.Smp).length _ rfl (HA5.out.row.alloc _) ⟨w5.heap.size, 0, none⟩ 1 1 [.int .i64 s.t, .int .u64 (s.v : Int)] rfl rfl (news_alloc w5.drew [.int .i64 s.t, .int .u64 (s.v : Int)] 70) (by intro u hu; simp at hu; rcases hu with rfl | rfl <;> rfl) (by decide) (by unfold maxLen; omega) (by omega) (by show base ≤ (w5.drew.alloc _).heap.size; simp; omega) _ rfl ?_
      intro g cg w6 hown6 hgr6 hat6 hlt6
      have hX6 := (hgr6.block X (by simp; omega) (fun e => HNE.out e.symm)).trans ((Below.heap_alloc w5.drew _ _ (by show X < w5.heap.size; omega)).trans HA5.out.top)
      have hb6 := (hgr6.block w.heap.size (by simp; omega) (fun e => by have := HVL.out _ e.symm; omega)).trans ((Below.heap_alloc w5.drew _ _ (by show w.heap.size < w5.heap.size; omega)).trans HBX5.out)
      have z0 : w6.cell? ⟨X, 0, none⟩ = some (.slice ao ([] : List Gz.Smp).length cap) := (cell_of_row _ _ _ _ _ _ hX6).trans rfl
      have z1 : w6.frozen? ⟨X, 0, none⟩ = false := frozen_of_row _ _ _ _ _ hX6
      obtain ⟨p0, p1⟩ := box2 hb6
      have hXs : w.heap.size ≠ X := Nat.ne_of_gt hXl
      have hP : (w6.setCell ⟨X, 0, none⟩ (.slice (some ⟨g, 0, none⟩) (([] : List Gz.Smp).length + 1) cg)).heap[w.heap.size]? = w6.heap[w.heap.size]? := heap_setCell_other _ _ _ _ hXs
      have HO6 := Lib.hid hown6
      have HG6 := Lib.hid hgr6
      have HX6 := Lib.hid hX6
      have HT6 := Lib.hid hat6
      clear hown6 hgr6 hX6 hat6 hb6
      refine hK.out _ _ ⟨p0, p1⟩ (fun hHeld => ?_)
      clear hK K
      try simp only [Act.put, List.setIfInBounds_toArray, List.set_cons_zero, List.set_cons_succ]
      refine wpAnyH_take (i := 8) (oi := ⟨some 51, _, _, _, _, _⟩) (v := ?v6) rfl (by kernel_rfl) (by kernel_rfl) (by kernel_rfl) (fun _ _ _ h => h) (Or.inl ⟨by rfl, ?hy6⟩) (by assumption) ?_
      case hy6 => (intro w' hSw; (try dsimp only at hSw); go_simp <;> with_reducible rfl)
      try simp only [Act.put, List.setIfInBounds_toArray, List.set_cons_zero, List.set_cons_succ]
      refine wpAnyH_take (i := 9) (oi := ⟨some 52, _, _, _, _, _⟩) (v := ?v7) rfl (by kernel_rfl) (by kernel_rfl) (by kernel_rfl) (fun _ _ _ h => h) (Or.inl ⟨by rfl, ?hy7⟩) (by assumption) ?_
      case hy7 => (intro w' hSw; (try dsimp only at hSw); go_simp <;> with_reducible rfl)
      try simp only [Act.put, List.setIfInBounds_toArray, List.set_cons_zero, List.set_cons_succ]
      refine wpAnyH_ready (rs := [10]) (by kernel_rfl) (by simp) ?_
      refine AllReadyH.cons (o := ⟨none, _, _, _, _, _⟩) rfl (fun K hK => ?_) AllReadyH.nil
      go_simp
      refine hK.out _ _ ⟨(World.cell?_of_block (a := ⟨w.heap.size, 0, none⟩) hP).trans p0, (World.cell?_of_block (a := ⟨w.heap.size, 1, none⟩) hP).trans p1⟩ (fun hHeld => ?_)
      clear hK K
      try simp only [Act.put, List.setIfInBounds_toArray, List.set_cons_zero, List.set_cons_succ]
      refine wpAnyH_done (by kernel_rfl) ?_ _
      go_wp2
      go_ret
      exact ⟨rfl, xapp_end HA5.out HB5.out HBA.out HSA.out HO6.out HG6.out HX6.out HT6.out⟩
    · go_simp
      refine hK.out _ _ ⟨cell_alloc b0, cell_alloc b1⟩ (fun hHeld => ?_)
      clear hK K
      try simp only [Act.put, List.setIfInBounds_toArray, List.set_cons_zero, List.set_cons_succ]
      refine wpAnyH_ready (rs := [4]) (by kernel_rfl) (by simp) ?_
      refine AllReadyH.cons (o := ⟨some 47, _, _, _, _, _⟩) rfl (fun K hK => ?_) AllReadyH.nil
      go_simp
      refine hK.out _ _ ⟨cell_alloc b0, cell_alloc b1⟩ (fun hHeld => ?_)
      clear hK K
      try simp only [Act.put, List.setIfInBounds_toArray, List.set_cons_zero, List.set_cons_succ]
      refine wpAnyH_ready (rs := [7]) (by kernel_rfl) (by simp) ?_
      refine AllReadyH.cons (o := ⟨some 50, _, _, _, _, _⟩) rfl (fun K hK => ?_) AllReadyH.nil
      refine step_append_lies _ rfl (.tmp 47) (.tmp 49) 22 rfl base 70 i0 (.agg #[.int .i64 0, .int .u64 0]) 2 16 Tryd.underlying22 hi0 hz0 hz1 hz2 rfl (by decide) (.slice ao ([] : List Gz.Smp).length cap) ([] : List Gz.Smp).length _ rfl (HA5.out.row.alloc _) ⟨w5.heap.size, 0, none⟩ 1 1 [.int .i64 s.t, .int .u64 (s.v : Int)] rfl rfl (news_alloc w5.drew [.int .i64 s.t, .int .u64 (s.v : Int)] 70) (by intro u hu; simp at hu; rcases hu with rfl | rfl <;> rfl) (by decide) (by unfold maxLen; omega) (by omega) (by show base ≤ (w5.drew.alloc _).heap.size; simp; omega) _ rfl ?_
      intro g cg w6 hown6 hgr6 hat6 hlt6
      have hX6 := (hgr6.block X (by simp; omega) (fun e => HNE.out e.symm)).trans ((Below.heap_alloc w5.drew _ _ (by show X < w5.heap.size; omega)).trans HA5.out.top)
      have hb6 := (hgr6.block w.heap.size (by simp; omega) (fun e => by have := HVL.out _ e.symm; omega)).trans ((Below.heap_alloc w5.drew _ _ (by show w.heap.size < w5.heap.size; omega)).trans HBX5.out)
      have z0 : w6.cell? ⟨X, 0, none⟩ = some (.slice ao ([] : List Gz.Smp).length cap) := (cell_of_row _ _ _ _ _ _ hX6).trans rfl
      have z1 : w6.frozen? ⟨X, 0, none⟩ = false := frozen_of_row _ _ _ _ _ hX6
      obtain ⟨p0, p1⟩ := box2 hb6
      have hXs : w.heap.size ≠ X := Nat.ne_of_gt hXl
      have hP : (w6.setCell ⟨X, 0, none⟩ (.slice (some ⟨g, 0, none⟩) (([] : List Gz.Smp).length + 1) cg)).heap[w.heap.size]? = w6.heap[w.heap.size]? := heap_setCell_other _ _ _ _ hXs
      have HO6 := Lib.hid hown6
      have HG6 := Lib.hid hgr6
      have HX6 := Lib.hid hX6
      have HT6 := Lib.hid hat6
      clear hown6 hgr6 hX6 hat6 hb6
      refine hK.out _ _ ⟨p0, p1⟩ (fun hHeld => ?_)
      clear hK K
      try simp only [Act.put, List.setIfInBounds_toArray, List.set_cons_zero, List.set_cons_succ]
      refine wpAnyH_take (i := 8) (oi := ⟨some 51, _, _, _, _, _⟩) (v := ?v8) rfl (by kernel_rfl) (by kernel_rfl) (by kernel_rfl) (fun _ _ _ h => h) (Or.inl ⟨by rfl, ?hy8⟩) (by assumption) ?_
      case hy8 => (intro w' hSw; (try dsimp only at hSw); go_simp <;> with_reducible rfl)
      try simp only [Act.put, List.setIfInBounds_toArray, List.set_cons_zero, List.set_cons_succ]
      refine wpAnyH_take (i := 9) (oi := ⟨some 52, _, _, _, _, _⟩) (v := ?v9) rfl (by kernel_rfl) (by kernel_rfl) (by kernel_rfl) (fun _ _ _ h => h) (Or.inl ⟨by rfl, ?hy9⟩) (by assumption) ?_
      case hy9 => (intro w' hSw; (try dsimp only at hSw); go_simp <;> with_reducible rfl)
      try simp only [Act.put, List.setIfInBounds_toArray, List.set_cons_zero, List.set_cons_succ]
      refine wpAnyH_ready (rs := [10]) (by kernel_rfl) (by simp) ?_
      refine AllReadyH.cons (o := ⟨none, _, _, _, _, _⟩) rfl (fun K hK => ?_) AllReadyH.nil
      go_simp
      refine hK.out _ _ ⟨(World.cell?_of_block (a := ⟨w.heap.size, 0, none⟩) hP).trans p0, (World.cell?_of_block (a := ⟨w.heap.size, 1, none⟩) hP).trans p1⟩ (fun hHeld => ?_)
      clear hK K
      try simp only [Act.put, List.setIfInBounds_toArray, List.set_cons_zero, List.set_cons_succ]
      refine wpAnyH_done (by kernel_rfl) ?_ _
      go_wp2
      go_ret
      exact ⟨rfl, xapp_end HA5.out HB5.out HBA.out HSA.out HO6.out HG6.out HX6.out HT6.out⟩
  · have hlt : 0 < l.length := by omega
    have gn : decide (0 < (l.length : Int)) = true := decide_eq_true (by omega)
    obtain ⟨m, hm⟩ : ∃ m, l.length - 1 = m := ⟨_, rfl⟩
    obtain ⟨bs, off, hao, _, hcw⟩ := hsm.cells (by intro e; subst e; simp at hlt)
    have d1 := (hcw (l.length - 1) (by omega)).c0
    have hat : (Gz.Ap.all l).t = (l[l.length - 1]'(by omega)).t := by
      obtain ⟨q1, q2, q3, q4⟩ := all_take HF.out (k := l.length) hlt (Nat.le_refl _)
      rw [List.take_length] at q3
      exact q3
    have gt : decide (s.t ≤ (l[l.length - 1]'(by omega)).t) = false := decide_eq_false (fun h => hcond ⟨hlt, by rw [hat]; exact h⟩)
    generalize (l[l.length - 1]'(by omega)).t = tl at *
    rw [hm] at d1
    have e2 : IntKind.i64.wrap ((l.length : Int) - 1) = (m : Int) := by rw [IntKind.wrap_i64]; omega
    have i2 : (0 : Int) ≤ (m : Int) ∧ (m : Int) < (l.length : Int) := by omega
    subst hao
    clear hcw hsm hat hcond
    go_enter Tryd.func10, Tryd.ntmps10
    go_wp2_with fail
    go_quiet (fail)
    go_wp2_with fail
    generalize HW5 : World.drewN _ _ = w5 at *
    have hb5 : Below Wa.heap.size Wa w5 := by rw [← HW5]; exact drewN_b _ _
    have ha5 := HA.out.below hb5
    have hx5 := (hb5.block w.heap.size (by omega)).trans HBX.out
    have hs5 : w5.heap.size = Wa.heap.size := by rw [← HW5]; rfl
    have hX5 : X < w5.heap.size := by omega
    have hw5 : w.heap.size < w5.heap.size := by omega
    have HSA := Lib.hid hsa
    obtain ⟨x0, x1⟩ := ha5.cell
    obtain ⟨b0, b1⟩ := box2 hx5
    have HA5 := Lib.hid ha5
    have HB5 := Lib.hid hb5
    have HBX5 := Lib.hid hx5
    clear HW5 hb5 ha5 hx5 hs5 hsa
    have y0 := cell_alloc (o := .cells #[.int .i64 s.t, .int .u64 (s.v : Int)] 70) (show w5.drew.cell? ⟨X, 0, none⟩ = _ from x0)
    refine wp_region_held_drew (S := fun w' => w'.cell? ⟨w.heap.size, 0, none⟩ = some (.int .i64 s.t) ∧ w'.cell? ⟨w.heap.size, 1, none⟩ = some (.int .u64 (s.v : Int))) (by kernel_rfl) ⟨b0, b1⟩ (fun hHeld => ?_)
    refine wpAnyH_take (i := 0) (oi := ⟨some 43, _, _, _, _, _⟩) (v := ?v10) rfl (by kernel_rfl) (by kernel_rfl) (by kernel_rfl) (fun _ _ _ h => h) (Or.inl ⟨by rfl, ?hy10⟩) (by assumption) ?_
    case hy10 => (intro w' hSw; (try dsimp only at hSw); go_simp <;> with_reducible rfl)
    try simp only [Act.put, List.setIfInBounds_toArray, List.set_cons_zero, List.set_cons_succ]
    refine wpAnyH_take (i := 1) (oi := ⟨some 44, _, _, _, _, _⟩) (v := ?v11) rfl (by kernel_rfl) (by kernel_rfl) (by kernel_rfl) (fun _ _ _ h => h) (Or.inl ⟨by rfl, ?hy11⟩) (by assumption) ?_
    case hy11 => (intro w' hSw; (try dsimp only at hSw); go_simp <;> with_reducible rfl)
    try simp only [Act.put, List.setIfInBounds_toArray, List.set_cons_zero, List.set_cons_succ]
    refine wpAnyH_take (i := 2) (oi := ⟨some 45, _, _, _, _, _⟩) (v := ?v12) rfl (by kernel_rfl) (by kernel_rfl) (by kernel_rfl) (fun _ _ _ h => h) (Or.inl ⟨by rfl, ?hy12⟩) (by assumption) ?_
    case hy12 => (intro w' hSw; (try dsimp only at hSw); go_simp <;> with_reducible rfl)
    try simp only [Act.put, List.setIfInBounds_toArray, List.set_cons_zero, List.set_cons_succ]
    refine wpAnyH_take (i := 3) (oi := ⟨some 46, _, _, _, _, _⟩) (v := ?v13) rfl (by kernel_rfl) (by kernel_rfl) (by kernel_rfl) (fun _ _ _ h => h) (Or.inl ⟨by rfl, ?hy13⟩) (by assumption) ?_
    case hy13 => (intro w' hSw; (try dsimp only at hSw); go_simp <;> with_reducible rfl)
    try simp only [Act.put, List.setIfInBounds_toArray, List.set_cons_zero, List.set_cons_succ]
    refine wpAnyH_take (i := 5) (oi := ⟨some 48, _, _, _, _, _⟩) (v := ?v14) rfl (by kernel_rfl) (by kernel_rfl) (by kernel_rfl) (fun _ _ _ h => h) (Or.inl ⟨by rfl, ?hy14⟩) (by assumption) ?_
    case hy14 => (intro w' hSw; (try dsimp only at hSw); go_simp <;> with_reducible rfl)
    try simp only [Act.put, List.setIfInBounds_toArray, List.set_cons_zero, List.set_cons_succ]
    refine wpAnyH_ready (rs := [4, 6]) (by kernel_rfl) (by simp) ?_
    refine AllReadyH.cons (o := ⟨some 47, _, _, _, _, _⟩) rfl (fun K hK => ?_) (AllReadyH.cons (o := ⟨some 49, _, _, _, _, _⟩) rfl (fun K hK => ?_) AllReadyH.nil)
    · go_simp
      refine hK.out _ _ ⟨b0, b1⟩ (fun hHeld => ?_)
      clear hK K
      try simp only [Act.put, List.setIfInBounds_toArray, List.set_cons_zero, List.set_cons_succ]
      refine wpAnyH_ready (rs := [6]) (by kernel_rfl) (by simp) ?_
      refine AllReadyH.cons (o := ⟨some 49, _, _, _, _, _⟩) rfl (fun K hK => ?_) AllReadyH.nil
      go_simp
      refine hK.out _ _ ⟨cell_alloc b0, cell_alloc b1⟩ (fun hHeld => ?_)
      clear hK K
      try simp only [Act.put, List.setIfInBounds_toArray, List.set_cons_zero, List.set_cons_succ]
      refine wpAnyH_ready (rs := [7]) (by kernel_rfl) (by simp) ?_
      refine AllReadyH.cons (o := ⟨some 50, _, _, _, _, _⟩) rfl (fun K hK => ?_) AllReadyH.nil
      refine step_append_lies _ rfl (.tmp 47) (.tmp 49) 22 rfl base 70 i0 (.agg #[.int .i64 0, .int .u64 0]) 2 16 Tryd.underlying22 hi0 hz0 hz1 hz2 rfl (by decide) (.slice (some ⟨bs, off, none⟩) l.length cap) l.length _ rfl (HA5.out.row.alloc _) ⟨w5.heap.size, 0, none⟩ 1 1 [.int .i64 s.t, .int .u64 (s.v : Int)] rfl rfl (news_alloc w5.drew [.int .i64 s.t, .int .u64 (s.v : Int)] 70) (by intro u hu; simp at hu; rcases hu with rfl | rfl <;> rfl) (by decide) (by unfold maxLen; omega) (by omega) (by show base ≤ (w5.drew.alloc _).heap.size; simp; omega) _ rfl ?_
      intro g cg w6 hown6 hgr6 hat6 hlt6
      have hX6 := (hgr6.block X (by simp; omega) (fun e => HNE.out e.symm)).trans ((Below.heap_alloc w5.drew _ _ (by show X < w5.heap.size; omega)).trans HA5.out.top)
      have hb6 := (hgr6.block w.heap.size (by simp; omega) (fun e => by have := HVL.out _ e.symm; omega)).trans ((Below.heap_alloc w5.drew _ _ (by show w.heap.size < w5.heap.size; omega)).trans HBX5.out)
      have z0 : w6.cell? ⟨X, 0, none⟩ = some (.slice (some ⟨bs, off, none⟩) l.length cap) := (cell_of_row _ _ _ _ _ _ hX6).trans rfl
      have z1 : w6.frozen? ⟨X, 0, none⟩ = false := frozen_of_row _ _ _ _ _ hX6
      obtain ⟨p0, p1⟩ := box2 hb6
      have hXs : w.heap.size ≠ X := Nat.ne_of_gt hXl
      have hP : (w6.setCell ⟨X, 0, none⟩ (.slice (some ⟨g, 0, none⟩) (l.length + 1) cg)).heap[w.heap.size]? = w6.heap[w.heap.size]? := heap_setCell_other _ _ _ _ hXs
      have HO6 := Lib.hid hown6
      have HG6 := Lib.hid hgr6
      have HX6 := Lib.hid hX6
      have HT6 := Lib.hid hat6
      clear hown6 hgr6 hX6 hat6 hb6
      refine hK.out _ _ ⟨p0, p1⟩ (fun hHeld => ?_)
      clear hK K
      try simp only [Act.put, List.setIfInBounds_toArray, List.set_cons_zero, List.set_cons_succ]
      refine wpAnyH_take (i := 8) (oi := ⟨some 51, _, _, _, _, _⟩) (v := ?v15) rfl (by kernel_rfl) (by kernel_rfl) (by kernel_rfl) (fun _ _ _ h => h) (Or.inl ⟨by rfl, ?hy15⟩) (by assumption) ?_
      case hy15 => (intro w' hSw; (try dsimp only at hSw); go_simp <;> with_reducible rfl)
      try simp only [Act.put, List.setIfInBounds_toArray, List.set_cons_zero, List.set_cons_succ]
      refine wpAnyH_take (i := 9) (oi := ⟨some 52, _, _, _, _, _⟩) (v := ?v16) rfl (by kernel_rfl) (by kernel_rfl) (by kernel_rfl) (fun _ _ _ h => h) (Or.inl ⟨by rfl, ?hy16⟩) (by assumption) ?_
      case hy16 => (intro w' hSw; (try dsimp only at hSw); go_simp <;> with_reducible rfl)
      try simp only [Act.put, List.setIfInBounds_toArray, List.set_cons_zero, List.set_cons_succ]
      refine wpAnyH_ready (rs := [10]) (by kernel_rfl) (by simp) ?_
      refine AllReadyH.cons (o := ⟨none, _, _, _, _, _⟩) rfl (fun K hK => ?_) AllReadyH.nil
      go_simp
      refine hK.out _ _ ⟨(World.cell?_of_block (a := ⟨w.heap.size, 0, none⟩) hP).trans p0, (World.cell?_of_block (a := ⟨w.heap.size, 1, none⟩) hP).trans p1⟩ (fun hHeld => ?_)
      clear hK K
      try simp only [Act.put, List.setIfInBounds_toArray, List.set_cons_zero, List.set_cons_succ]
      refine wpAnyH_done (by kernel_rfl) ?_ _
      go_wp2
      go_ret
      exact ⟨rfl, xapp_end HA5.out HB5.out HBA.out HSA.out HO6.out HG6.out HX6.out HT6.out⟩
    · go_simp
      refine hK.out _ _ ⟨cell_alloc b0, cell_alloc b1⟩ (fun hHeld => ?_)
      clear hK K
      try simp only [Act.put, List.setIfInBounds_toArray, List.set_cons_zero, List.set_cons_succ]
      refine wpAnyH_ready (rs := [4]) (by kernel_rfl) (by simp) ?_
      refine AllReadyH.cons (o := ⟨some 47, _, _, _, _, _⟩) rfl (fun K hK => ?_) AllReadyH.nil
      go_simp
      refine hK.out _ _ ⟨cell_alloc b0, cell_alloc b1⟩ (fun hHeld => ?_)
      clear hK K
      try simp only [Act.put, List.setIfInBounds_toArray, List.set_cons_zero, List.set_cons_succ]
      refine wpAnyH_ready (rs := [7]) (by kernel_rfl) (by simp) ?_
      refine AllReadyH.cons (o := ⟨some 50, _, _, _, _, _⟩) rfl (fun K hK => ?_) AllReadyH.nil
      refine step_append_lies _ rfl (.tmp 47) (.tmp 49) 22 rfl base 70 i0 (.agg #[.int .i64 0, .int .u64 0]) 2 16 Tryd.underlying22 hi0 hz0 hz1 hz2 rfl (by decide) (.slice (some ⟨bs, off, none⟩) l.length cap) l.length _ rfl (HA5.out.row.alloc _) ⟨w5.heap.size, 0, none⟩ 1 1 [.int .i64 s.t, .int .u64 (s.v : Int)] rfl rfl (news_alloc w5.drew [.int .i64 s.t, .int .u64 (s.v : Int)] 70) (by intro u hu; simp at hu; rcases hu with rfl | rfl <;> rfl) (by decide) (by unfold maxLen; omega) (by omega) (by show base ≤ (w5.drew.alloc _).heap.size; simp; omega) _ rfl ?_
      intro g cg w6 hown6 hgr6 hat6 hlt6
      have hX6 := (hgr6.block X (by simp; omega) (fun e => HNE.out e.symm)).trans ((Below.heap_alloc w5.drew _ _ (by show X < w5.heap.size; omega)).trans HA5.out.top)
      have hb6 := (hgr6.block w.heap.size (by simp; omega) (fun e => by have := HVL.out _ e.symm; omega)).trans ((Below.heap_alloc w5.drew _ _ (by show w.heap.size < w5.heap.size; omega)).trans HBX5.out)
      have z0 : w6.cell? ⟨X, 0, none⟩ = some (.slice (some ⟨bs, off, none⟩) l.length cap) := (cell_of_row _ _ _ _ _ _ hX6).trans rfl
      have z1 : w6.frozen? ⟨X, 0, none⟩ = false := frozen_of_row _ _ _ _ _ hX6
      obtain ⟨p0, p1⟩ := box2 hb6
      have hXs : w.heap.size ≠ X := Nat.ne_of_gt hXl
      have hP : (w6.setCell ⟨X, 0, none⟩ (.slice (some ⟨g, 0, none⟩) (l.length + 1) cg)).heap[w.heap.size]? = w6.heap[w.heap.size]? := heap_setCell_other _ _ _ _ hXs
      have HO6 := Lib.hid hown6
      have HG6 := Lib.hid hgr6
      have HX6 := Lib.hid hX6
      have HT6 := Lib.hid hat6
      clear hown6 hgr6 hX6 hat6 hb6
      refine hK.out _ _ ⟨p0, p1⟩ (fun hHeld => ?_)
      clear hK K
      try simp only [Act.put, List.setIfInBounds_toArray, List.set_cons_zero, List.set_cons_succ]
      refine wpAnyH_take (i := 8) (oi := ⟨some 51, _, _, _, _, _⟩) (v := ?v17) rfl (by kernel_rfl) (by kernel_rfl) (by kernel_rfl) (fun _ _ _ h => h) (Or.inl ⟨by rfl, ?hy17⟩) (by assumption) ?_
      case hy17 => (intro w' hSw; (try dsimp only at hSw); go_simp <;> with_reducible rfl)
      try simp only [Act.put, List.setIfInBounds_toArray, List.set_cons_zero, List.set_cons_succ]
      refine wpAnyH_take (i := 9) (oi := ⟨some 52, _, _, _, _, _⟩) (v := ?v18) rfl (by kernel_rfl) (by kernel_rfl) (by kernel_rfl) (fun _ _ _ h => h) (Or.inl ⟨by rfl, ?hy18⟩) (by assumption) ?_
      case hy18 => (intro w' hSw; (try dsimp only at hSw); go_simp <;> with_reducible rfl)
      try simp only [Act.put, List.setIfInBounds_toArray, List.set_cons_zero, List.set_cons_succ]
      refine wpAnyH_ready (rs := [10]) (by kernel_rfl) (by simp) ?_
      refine AllReadyH.cons (o := ⟨none, _, _, _, _, _⟩) rfl (fun K hK => ?_) AllReadyH.nil
      go_simp
      refine hK.out _ _ ⟨(World.cell?_of_block (a := ⟨w.heap.size, 0, none⟩) hP).trans p0, (World.cell?_of_block (a := ⟨w.heap.size, 1, none⟩) hP).trans p1⟩ (fun hHeld => ?_)
      clear hK K
      try simp only [Act.put, List.setIfInBounds_toArray, List.set_cons_zero, List.set_cons_succ]
      refine wpAnyH_done (by kernel_rfl) ?_ _
      go_wp2
      go_ret
      exact ⟨rfl, xapp_end HA5.out HB5.out HBA.out HSA.out HO6.out HG6.out HX6.out HT6.out⟩
set_option maxHeartbeats 1000000 in
set_option maxRecDepth 100000 in
/-- A sample too early. -/
theorem xapp_order {w : World} {X base : Nat} {v : Value} {l : List Gz.Smp} (h : Xa w X base v l) (hf : Gz.Fine l) (s : Gz.Smp) (hs : ¬ (s.t < -Gz.far ∨ Gz.far < s.t)) (hcond : 0 < l.length ∧ s.t ≤ (Gz.Ap.all l).t) :
    Calls Tryd.prog 10 #[.pointer (some ⟨X, 0, none⟩), smV s] w fun e w' => e = .returned (.int .u16 100) ∧ Below w.heap.size w w' := by
  have hne0 := hcond.1
  have g1 : decide (s.t < -9007199254740992) = false := decide_eq_false (by unfold Gz.far at hs; omega)
  have g2 : decide (9007199254740992 < s.t) = false := decide_eq_false (by unfold Gz.far at hs; omega)
  obtain ⟨Wa, hWa⟩ : ∃ Wa, w.alloc (.cells #[.int .i64 s.t, .int .u64 (s.v : Int)] 70) = Wa := ⟨_, rfl⟩
  have hba : Below w.heap.size w Wa := by rw [← hWa]; exact (Below.refl _ _).alloc (Nat.le_refl _) _
  have hbx : Wa.heap[w.heap.size]? = some (.cells #[.int .i64 s.t, .int .u64 (s.v : Int)] 70 (0, 0)) := by rw [← hWa]; exact heap_alloc_new w _
  obtain ⟨ao, cap, rfl, hsm⟩ := (h.below hba).sms hf
  have hlen := hf.len
  have ha := h.below hba
  obtain ⟨x0, x1⟩ := ha.cell
  obtain ⟨b0, b1⟩ := box2 hbx
  have HBA := Lib.hid hba
  have hlt : 0 < l.length := by omega
  have gn : decide (0 < (l.length : Int)) = true := decide_eq_true (by omega)
  obtain ⟨m, hm⟩ : ∃ m, l.length - 1 = m := ⟨_, rfl⟩
  obtain ⟨bs, off, hao, _, hcw⟩ := hsm.cells (by intro e; subst e; simp at hlt)
  have d1 := (hcw (l.length - 1) (by omega)).c0
  have hat : (Gz.Ap.all l).t = (l[l.length - 1]'(by omega)).t := by
    obtain ⟨q1, q2, q3, q4⟩ := all_take hf (k := l.length) hlt (Nat.le_refl _)
    rw [List.take_length] at q3
    exact q3
  have gt : decide (s.t ≤ (l[l.length - 1]'(by omega)).t) = true := decide_eq_true (by rw [← hat]; exact hcond.2)
  generalize (l[l.length - 1]'(by omega)).t = tl at *
  rw [hm] at d1
  have e2 : IntKind.i64.wrap ((l.length : Int) - 1) = (m : Int) := by rw [IntKind.wrap_i64]; omega
  have i2 : (0 : Int) ≤ (m : Int) ∧ (m : Int) < (l.length : Int) := by omega
  subst hao
  clear hcw hsm hat hcond h hf ha hba hbx
  unfold smV
  go_enter Tryd.func10, Tryd.ntmps10
  go_wp2_with fail
  go_quiet (fail)
  go_wp2_with fail
  go_ret
  exact ⟨rfl, HBA.out.trans ((drewN_b _ _).mono HBA.out.size)⟩
set_option maxHeartbeats 1000000 in
set_option maxRecDepth 100000 in
/-- A sample too many. -/
theorem xapp_many {w : World} {X base : Nat} {v : Value} {l : List Gz.Smp} (h : Xa w X base v l) (hf : Gz.Fine l) (s : Gz.Smp) (hs : ¬ (s.t < -Gz.far ∨ Gz.far < s.t)) (hcond : ¬ (0 < l.length ∧ s.t ≤ (Gz.Ap.all l).t)) (h120 : l.length = 120) :
    Calls Tryd.prog 10 #[.pointer (some ⟨X, 0, none⟩), smV s] w fun e w' => e = .returned (.int .u16 102) ∧ Below w.heap.size w w' := by
  have g1 : decide (s.t < -9007199254740992) = false := decide_eq_false (by unfold Gz.far at hs; omega)
  have g2 : decide (9007199254740992 < s.t) = false := decide_eq_false (by unfold Gz.far at hs; omega)
  obtain ⟨Wa, hWa⟩ : ∃ Wa, w.alloc (.cells #[.int .i64 s.t, .int .u64 (s.v : Int)] 70) = Wa := ⟨_, rfl⟩
  have hba : Below w.heap.size w Wa := by rw [← hWa]; exact (Below.refl _ _).alloc (Nat.le_refl _) _
  have hbx : Wa.heap[w.heap.size]? = some (.cells #[.int .i64 s.t, .int .u64 (s.v : Int)] 70 (0, 0)) := by rw [← hWa]; exact heap_alloc_new w _
  obtain ⟨ao, cap, rfl, hsm⟩ := (h.below hba).sms hf
  have hlen := hf.len
  have ha := h.below hba
  obtain ⟨x0, x1⟩ := ha.cell
  obtain ⟨b0, b1⟩ := box2 hbx
  have HBA := Lib.hid hba
  have hlt : 0 < l.length := by omega
  have gn : decide (0 < (l.length : Int)) = true := decide_eq_true (by omega)
  obtain ⟨m, hm⟩ : ∃ m, l.length - 1 = m := ⟨_, rfl⟩
  obtain ⟨bs, off, hao, _, hcw⟩ := hsm.cells (by intro e; subst e; simp at hlt)
  have d1 := (hcw (l.length - 1) (by omega)).c0
  have hat : (Gz.Ap.all l).t = (l[l.length - 1]'(by omega)).t := by
    obtain ⟨q1, q2, q3, q4⟩ := all_take hf (k := l.length) hlt (Nat.le_refl _)
    rw [List.take_length] at q3
    exact q3
  have gt : decide (s.t ≤ (l[l.length - 1]'(by omega)).t) = false := decide_eq_false (fun h => hcond ⟨hlt, by rw [hat]; exact h⟩)
  have gm : decide ((120 : Int) ≤ (l.length : Int)) = true := decide_eq_true (by omega)
  generalize (l[l.length - 1]'(by omega)).t = tl at *
  rw [hm] at d1
  have e2 : IntKind.i64.wrap ((l.length : Int) - 1) = (m : Int) := by rw [IntKind.wrap_i64]; omega
  have i2 : (0 : Int) ≤ (m : Int) ∧ (m : Int) < (l.length : Int) := by omega
  subst hao
  clear hcw hsm hat hcond h hf ha hba hbx h120
  unfold smV
  go_enter Tryd.func10, Tryd.ntmps10
  go_wp2_with fail
  go_quiet (fail)
  go_wp2_with fail
  go_ret
  exact ⟨rfl, HBA.out.trans ((drewN_b _ _).mono HBA.out.size)⟩

/-- The samples behind an Append. -/
def xnext (l : List Gz.Smp) (s : Gz.Smp) : List Gz.Smp := if ((Gz.Ap.all l).app s).2 = 0 then l ++ [s] else l
theorem xapp_any {w : World} {X base : Nat} {v : Value} {l : List Gz.Smp} (h : Xa w X base v l) (hf : Gz.Fine l) (hb : base ≤ w.heap.size) (s : Gz.Smp) :
    Calls Tryd.prog 10 #[.pointer (some ⟨X, 0, none⟩), smV s] w fun e w' => e = .returned (.int .u16 ((Gz.Ap.all l).app s).2) ∧ ∃ v', Xa w' X base v' (xnext l s) ∧ Gro X v.ownBlock w w' ∧ Anew w v.ownBlock v'.ownBlock := by
  have hn := Gz.all_n hf
  have hlen := hf.len
  unfold xnext Gz.Ap.app
  by_cases h1 : s.t < -Gz.far ∨ Gz.far < s.t
  · rw [if_pos h1, if_neg (by simp)]
    exact (xapp_range w X s h1).mono fun e w' ⟨e1, e2⟩ => ⟨e1, v, h.below e2, Gro.ofBelow e2, Anew.refl _ _⟩
  rw [if_neg h1, hn]
  by_cases h2 : 0 < l.length ∧ s.t ≤ (Gz.Ap.all l).t
  · rw [if_pos h2, if_neg (by simp)]
    exact (xapp_order h hf s h1 h2).mono fun e w' ⟨e1, e2⟩ => ⟨e1, v, h.below e2, Gro.ofBelow e2, Anew.refl _ _⟩
  rw [if_neg h2]
  by_cases h3 : l.length = 120
  · rw [if_pos h3, if_neg (by simp)]
    exact (xapp_many h hf s h1 h2 h3).mono fun e w' ⟨e1, e2⟩ => ⟨e1, v, h.below e2, Gro.ofBelow e2, Anew.refl _ _⟩
  rw [if_neg h3, if_pos rfl]
  exact xapp_put h hf hb s h1 h2 (by omega)
/-- Both appenders go on alike. -/
theorem app_next' {l : List Gz.Smp} {s : Gz.Smp} (hf : Gz.Fine l) (hv : s.v < 18446744073709551616) : ((Gz.Ap.all l).app s).1 = Gz.Ap.all (xnext l s) ∧ Gz.Fine (xnext l s) := by
  have hn := Gz.all_n hf
  have hlen := hf.len
  unfold xnext Gz.Ap.app
  by_cases h1 : s.t < -Gz.far ∨ Gz.far < s.t
  · rw [if_pos h1, if_neg (by simp)]
    exact ⟨rfl, hf⟩
  rw [if_neg h1, hn]
  by_cases h2 : 0 < l.length ∧ s.t ≤ (Gz.Ap.all l).t
  · rw [if_pos h2, if_neg (by simp)]
    exact ⟨rfl, hf⟩
  rw [if_neg h2]
  by_cases h3 : l.length = 120
  · rw [if_pos h3, if_neg (by simp)]
    exact ⟨rfl, hf⟩
  rw [if_neg h3, if_pos rfl, Gz.Ap.all_snoc]
  refine ⟨rfl, fun x hx => ?_, fun i a b ha hb => ?_, by simp; omega⟩
  · rcases List.mem_append.1 hx with hx | hx
    · exact hf.far x hx
    · simp at hx; subst hx; omega
  · by_cases hi : i + 1 < l.length
    · rw [List.getElem?_append_left (by omega)] at ha
      rw [List.getElem?_append_left hi] at hb
      exact hf.rise i a b ha hb
    · have hb1 := (List.getElem?_eq_some_iff.1 hb).1
      simp at hb1
      have hi' : i + 1 = l.length := by omega
      rw [List.getElem?_append_left (by omega)] at ha
      rw [List.getElem?_append_right (by omega), show i + 1 - l.length = 0 by omega] at hb
      simp at hb
      subst hb
      obtain ⟨q1, q2, q3, q4⟩ := all_take hf (k := l.length) (by omega) (Nat.le_refl _)
      rw [List.take_length] at q3
      have e : a = l[l.length - 1]'(by omega) := by
        rw [List.getElem?_eq_getElem (by omega)] at ha
        injection ha with ha
        rw [← ha]
        congr 1
        omega
      rw [e, ← q3]
      rcases Int.lt_or_le (Gz.Ap.all l).t s.t with h | h
      · exact h
      · exact absurd ⟨by omega, h⟩ h2
set_option maxHeartbeats 1000000 in
set_option maxRecDepth 100000 in
/-- The document's Chunk. -/
theorem xchunkA_any {w : World} {X base : Nat} {v : Value} {l : List Gz.Smp} (h : Xa w X base v l) (hf : Gz.Fine l) {n : Nat} (hn : n ≤ w.heap.size) {b o c b0 o0 c0 b1 o1 c1 b2 o2 c2 : Nat} (hk : BkAt n w b o c b0 o0 c0 b1 o1 c1 b2 o2 c2) :
    Calls Tryd.prog 14 #[.pointer (some ⟨X, 0, none⟩)] w fun e w' => ∃ v', e = .returned (chV (Gz.Ap.all l).first (Gz.Ap.all l).t l.length v') ∧ w'.ownsRow w.heap.size 5 1 v' (Bt.pack (Gz.Ap.all l).L).length ((Bt.pack (Gz.Ap.all l).L).map f8) ∧ Below w.heap.size w w' := by
  obtain ⟨Wa, hWa⟩ : ∃ Wa, w.alloc (.cells #[.int .i64 0, .int .i64 0, .int .i64 0, .slice none 0 0] 73) = Wa := ⟨_, rfl⟩
  have hba : Below w.heap.size w Wa := by rw [← hWa]; exact (Below.refl _ _).alloc (Nat.le_refl _) _
  have hsa : w.heap.size < Wa.heap.size := by rw [← hWa]; simp
  have hbx : Wa.heap[w.heap.size]? = some (.cells #[.int .i64 0, .int .i64 0, .int .i64 0, .slice none 0 0] 73 (0, 0)) := by rw [← hWa]; exact heap_alloc_new w _
  have ha := h.below hba
  obtain ⟨ao, cap, rfl, hsm⟩ := ha.sms hf
  obtain ⟨x0, x1⟩ := ha.cell
  obtain ⟨k0, k1, k2, k3, kz⟩ := box4 hbx
  have HA := Lib.hid ha
  have HBA := Lib.hid hba
  have HBX := Lib.hid hbx
  have HF := Lib.hid hf
  have HSM := Lib.hid hsm
  have HK := Lib.hid ((hk.below (hba.mono hn)).mono (show n ≤ Wa.heap.size by omega))
  clear h hba ha hbx hf hsm hk
  obtain ⟨fs, hu⟩ := struct73
  by_cases h0 : l.length = 0
  · obtain rfl := List.eq_nil_of_length_eq_zero h0
    clear h0
    go_enter Tryd.func14, Tryd.ntmps14
    go_wp2
    refine bodyPost_ret (results_cell_row Tryd.results14 _ _ w.heap.size 73 _ (0, 0) (.struct fs) rfl (four_set HBX.out) hu rfl size73) rfl ?_
    have hbw := HBA.out
    exact ⟨_, rfl, World.ownsRow_nil _ _ _ _, (((hbw.setCell (Nat.le_refl _) _).setCell (Nat.le_refl _) _).setCell (Nat.le_refl _) _).setCell (Nat.le_refl _) _⟩
  · have hlt : 0 < l.length := by omega
    have gz : ((l.length : Int) == 0) = false := by simp; intro e; subst e; simp at hlt
    clear h0
    go_enter Tryd.func14, Tryd.ntmps14
    go_wp2_with fail
    refine Calls.mono (by exact xchunk_any Wa.heap.size Wa ao cap l HSM.out (Nat.le_refl _) HF.out hlt HK.out) ?_
    rintro e w2 ⟨v2, rfl, ho2, hb2⟩
    obtain ⟨ao2, cap2, rfl⟩ := own_slice ho2
    have hbx2 := (hb2.block w.heap.size hsa).trans HBX.out
    obtain ⟨k0, k1, k2, k3, kz⟩ := box4 hbx2
    unfold chV
    have HO2 := Lib.hid ho2
    have HB2 := Lib.hid hb2
    have HBX2 := Lib.hid hbx2
    clear ho2 hb2 hbx2
    go_wp2_with fail
    refine bodyPost_ret (results_cell_row Tryd.results14 _ _ w.heap.size 73 _ (0, 0) (.struct fs) rfl (four_set HBX2.out) hu rfl size73) rfl ?_
    have hown := HO2.out
    have hbw := HBA.out.trans (HB2.out.mono (Nat.le_of_lt hsa))
    exact ⟨_, rfl, own_low (own_of_same hown fun k hk => four_other (by have := own_from hown k hk; omega)) (Nat.le_of_lt hsa), (((hbw.setCell (Nat.le_refl _) _).setCell (Nat.le_refl _) _).setCell (Nat.le_refl _) _).setCell (Nat.le_refl _) _⟩
set_option maxHeartbeats 1000000 in
set_option maxRecDepth 100000 in
/-- The program's Chunk, also of none. -/
theorem chunkA_any {w : World} {P B : Nat} {r : Option Nat} {l : List Gz.Smp} (h : Apm w P B r (Gz.Ap.all l)) (hf : Gz.Fine l) :
    Calls Tryd.prog 11 #[.pointer (some ⟨P, 0, none⟩)] w fun e w' => ∃ v', e = .returned (chV (Gz.Ap.all l).first (Gz.Ap.all l).t l.length v') ∧ w'.ownsRow w.heap.size 5 1 v' (Bt.pack (Gz.Ap.all l).L).length ((Bt.pack (Gz.Ap.all l).L).map f8) ∧ Below w.heap.size w w' := by
  by_cases h0 : 0 < l.length
  · have := chunk_any h (Gz.all_ok hf) (by rw [Gz.all_n hf]; exact h0)
    rw [Gz.all_n hf] at this
    exact this
  · obtain rfl := List.eq_nil_of_length_eq_zero (by omega : l.length = 0)
    obtain ⟨Wa, hWa⟩ : ∃ Wa, w.alloc (.cells #[.int .i64 0, .int .i64 0, .int .i64 0, .slice none 0 0] 73) = Wa := ⟨_, rfl⟩
    have hba : Below w.heap.size w Wa := by rw [← hWa]; exact (Below.refl _ _).alloc (Nat.le_refl _) _
    have hbx : Wa.heap[w.heap.size]? = some (.cells #[.int .i64 0, .int .i64 0, .int .i64 0, .slice none 0 0] 73 (0, 0)) := by rw [← hWa]; exact heap_alloc_new w _
    obtain ⟨-, -, -, -, -, c5, -, -, -, -⟩ := (h.below hba).cells
    have c5 : Wa.cell? ⟨P, 5, none⟩ = some (.int .i64 0) := c5
    obtain ⟨k0, k1, k2, k3, kz⟩ := box4 hbx
    have HBA := Lib.hid hba
    have HBX := Lib.hid hbx
    clear h hba hbx hf
    obtain ⟨fs, hu⟩ := struct73
    go_enter Tryd.func11, Tryd.ntmps11
    go_wp2
    refine bodyPost_ret (results_cell_row Tryd.results11 _ _ w.heap.size 73 _ (0, 0) (.struct fs) rfl (four_set HBX.out) hu rfl size73) rfl ?_
    have hbw := HBA.out
    exact ⟨_, rfl, World.ownsRow_nil _ _ _ _, (((hbw.setCell (Nat.le_refl _) _).setCell (Nat.le_refl _) _).setCell (Nat.le_refl _) _).setCell (Nat.le_refl _) _⟩
end Go.Proofs.YtepjpdhmjchakaaDoor
