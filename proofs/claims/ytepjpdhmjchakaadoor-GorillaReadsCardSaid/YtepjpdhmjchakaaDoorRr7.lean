/- The law's all: a chunk's samples by ranging over them, the first n. Condition: the library's table of trailing noughts (TabW). -/
import Derived.Test.YtepjpdhmjchakaaDoorRr6
namespace Go.Proofs.YtepjpdhmjchakaaDoor
open Go.RowKit Go.Shelf
set_option linter.unusedVariables false
attribute [local go_sem] Oper.semAt_some

/-- The samples that all gives. -/
noncomputable def al (n : Int) (c : Cki) : List Gz.Smp := if n < 0 then (rdo c).getD [] else ((rdo c).getD []).take n.toNat
/-- Between two rounds. -/
def AlI (w : World) (B0 Bo Bn : Nat) (n : Int) (pre : List Gz.Smp) (W : World) : Prop :=
  (∃ v, W.heap[Bo]? = some (.cells #[v] 22 (0, 0)) ∧ W.ownsRow B0 70 2 v pre.length (smCs pre)) ∧ W.heap[Bn]? = some (.cells #[.int .i64 n] 3 (0, 0)) ∧ Below w.heap.size w W ∧ B0 ≤ W.heap.size
theorem own_key {B0 : Nat} {X Y : World} {row : Option Nat} (hg : X.grownBy Y row) (hr : ∀ r, row = some r → B0 ≤ r ∧ ∃ o : Obj, X.heap[r]? = some o ∧ o.isCells = false) {k : Nat} {cs : Array Value} {t : TypeId} (hk : X.heap[k]? = some (.cells cs t (0, 0))) : Y.heap[k]? = some (.cells cs t (0, 0)) := by
  refine (hg.block k (heap_lt hk) (fun e => ?_)).trans hk
  obtain ⟨_, o, ho, hc⟩ := hr k e.symm
  rw [hk] at ho
  cases ho
  cases hc
theorem own_cells {w : World} {base : Nat} {e : TypeId} {size : Nat} {v : Value} {n : Nat} {xs : List Value} (h : w.ownsRow base e size v n xs) {j : Nat} {o : Obj} (hj : v.ownBlock = some j) (ho : w.heap[j]? = some o) : o.isCells = true := by
  obtain ⟨cs, hc⟩ := own_block h j hj
  rw [hc] at ho
  injection ho with ho
  subst ho
  rfl
/-- What an append into the box at Bo leaves. -/
theorem AlI.put {w W w1 : World} {B0 Bo Bn lo : Nat} {n : Int} {pre : List Gz.Smp} {x : Gz.Smp} {v v' : Value} {o : Obj} (hv : W.heap[Bo]? = some (.cells #[v] 22 (0, 0))) (hrow : W.ownsRow B0 70 2 v pre.length (smCs pre)) (hbn : W.heap[Bn]? = some (.cells #[.int .i64 n] 3 (0, 0)))
    (hB : Below w.heap.size w W) (hB0 : B0 ≤ W.heap.size) (hlo : Bo < lo) (hlo2 : lo ≤ B0) (hne : Bn ≠ Bo) (hbo : w.heap.size ≤ Bo) (hbo2 : Bn < B0)
    (hown : w1.ownsRow B0 70 2 v' (pre.length + 1) (smCs pre ++ [.int .i64 x.t, .int .u64 (x.v : Int)])) (hg : (W.alloc o).grownBy w1 v.ownBlock) :
    w1.heap[Bo]? = some (.cells #[v] 22 (0, 0)) ∧ KeepsFrom B0 W (w1.setCell ⟨Bo, 0, none⟩ v') ∧ Same lo B0 W (w1.setCell ⟨Bo, 0, none⟩ v') ∧ AlI w B0 Bo Bn n (pre ++ [x]) (w1.setCell ⟨Bo, 0, none⟩ v') := by
  have hlt : ∀ k, v.ownBlock = some k → B0 ≤ k ∧ k < W.heap.size := fun k hk => hrow.lt k hk
  have b1 : w1.heap[Bo]? = some (.cells #[v] 22 (0, 0)) := (hg.block Bo (by simp; have := heap_lt hv; omega) (fun e => by have := hlt Bo e.symm; omega)).trans ((Below.heap_alloc _ _ _ (heap_lt hv)).trans hv)
  have b2 : w1.heap[Bn]? = some (.cells #[.int .i64 n] 3 (0, 0)) := (hg.block Bn (by simp; have := heap_lt hbn; omega) (fun e => by have := hlt Bn e.symm; omega)).trans ((Below.heap_alloc _ _ _ (heap_lt hbn)).trans hbn)
  have hs1 := hg.size
  simp at hs1
  refine ⟨b1, ?_, fun k h1 h2 => ?_, ⟨v', by rw [heap_setCell_same _ _ _ _ _ _ b1]; rfl, ?_⟩, ?_, ?_, by simp; omega⟩
  · refine KeepsOthers.from (((KeepsOthers.alloc W o).trans (KeepsOthers.of_grownBy hg fun j o' ej hj => ?_)).trans (KeepsOthers.setCell _ _ _)) _
    exact own_cells (hrow.alloc o) ej hj
  · rw [heap_setCell_other _ _ _ _ (show k ≠ Bo by omega)]
    exact (hg.block k (by simp; omega) (fun e => by have := hlt k e.symm; omega)).trans (Below.heap_alloc _ _ _ (by omega))
  · rw [List.length_append, smCs_snoc]
    exact own_of_same hown (fun k hk => heap_setCell_other _ _ _ _ (show k ≠ Bo by have := hown.lt k hk; omega))
  · rw [heap_setCell_other _ _ _ _ hne]
    exact b2
  · exact ((hB.alloc hB.size o).grown hg (by simp; have := hB.size; omega) (fun k hk => by have := hlt k hk; omega)).setCell (p := ⟨Bo, 0, none⟩) hbo _
theorem AlI.own (w : World) (B0 Bo Bn : Nat) (n : Int) (hB : w.heap.size ≤ B0) : OwnFrom B0 (AlI w B0 Bo Bn n) := by
  rintro pre X Y row ⟨⟨v, h1, h2⟩, h3, h4, h5⟩ hg hr
  refine ⟨⟨v, own_key hg hr h1, h2.kept hg ?_⟩, own_key hg hr h3, h4.grown hg h4.size (fun k hk => by have := (hr k hk).1; omega), Nat.le_trans h5 hg.size⟩
  rcases hvb : v.ownBlock with _ | k
  · exact .inl rfl
  · refine .inr (fun e => ?_)
    obtain ⟨cs, hk⟩ := own_block h2 k hvb
    obtain ⟨_, o, ho, hc⟩ := hr k e.symm
    rw [hk] at ho
    cases ho
    cases hc

set_option maxRecDepth 100000 in
set_option maxHeartbeats 4000000 in
theorem gall_any (w : World) (c : Cki) (u : Value) (lo0 hi0 : Nat) (n : Int) (hu : Sl lo0 hi0 f8 w u c.d) (hhi : hi0 ≤ w.heap.size) (hT : TabW w) :
    Calls Tryd.prog 21 #[.agg #[.int .i64 c.f, .int .i64 c.t, .int .i64 c.n, u], .int .i64 n] w fun e w' => ∃ v, e = .returned v ∧ w'.ownsRow w.heap.size 70 2 v (al n c).length (smCs (al n c)) ∧ Below w.heap.size w w' := by
  obtain ⟨i0, hi0', hz0, hz1, hz2⟩ := info_parts infoSm4
  have hlb : 1 < w.heap.size := block_lt_of_cell (hT 0 (by omega))
  obtain ⟨Wb, hWb⟩ : ∃ Wb, ((w.alloc (.cells #[.int .i64 c.f, .int .i64 c.t, .int .i64 c.n, u] 73)).alloc (.cells #[.int .i64 n] 3)).alloc (.cells #[.slice none 0 0] 22) = Wb := ⟨_, rfl⟩
  have s1 := World.size_alloc w (.cells #[.int .i64 c.f, .int .i64 c.t, .int .i64 c.n, u] 73)
  have s2 := World.size_alloc (w.alloc (.cells #[.int .i64 c.f, .int .i64 c.t, .int .i64 c.n, u] 73)) (.cells #[.int .i64 n] 3)
  have s3 := World.size_alloc ((w.alloc (.cells #[.int .i64 c.f, .int .i64 c.t, .int .i64 c.n, u] 73)).alloc (.cells #[.int .i64 n] 3)) (.cells #[.slice none 0 0] 22)
  rw [s1] at s2
  rw [s2] at s3
  have hbb : Below w.heap.size w Wb := by rw [← hWb]; exact (((Below.refl _ _).alloc (Nat.le_refl _) _).alloc (by omega) _).alloc (by omega) _
  have x0 : Wb.heap[w.heap.size]? = some (.cells #[.int .i64 c.f, .int .i64 c.t, .int .i64 c.n, u] 73 (0, 0)) := by
    rw [← hWb]; exact alloc_old _ _ _ _ _ s2 (by omega) (alloc_old _ _ _ _ _ s1 (by omega) (alloc_at _ _ _ rfl))
  have x1 : Wb.heap[w.heap.size + 1]? = some (.cells #[.int .i64 n] 3 (0, 0)) := by
    rw [← hWb]; exact alloc_old _ _ _ _ _ s2 (by omega) (alloc_at _ _ _ s1)
  have x2 : Wb.heap[w.heap.size + 1 + 1]? = some (.cells #[.slice none 0 0] 22 (0, 0)) := by
    rw [← hWb]; exact alloc_at _ _ _ s2
  have hsb : Wb.heap.size = w.heap.size + 1 + 1 + 1 := by rw [← hWb]; exact s3
  obtain ⟨k0, k1, k2, k3, kz⟩ := box4 x0
  clear s1 s2 s3
  have HC := allm_any Wb c u lo0 hi0 (hu.below hbb hhi) (Nat.le_trans hhi hbb.size) (hT.below hbb hlb)
  refine (callsIn_wide (n := 3)).1 ?_
  refine callsIn_of_wp_marks Tryd.func21 rfl trivial ?_ rfl
  simp only [Tryd.ntmps21, List.size_toArray, List.length_cons, List.length_nil, Nat.reduceAdd, Nat.reduceSub, Array.replicate_succ, Array.replicate_zero, List.push_toArray, List.append_toArray, List.nil_append, List.cons_append]
  gi_wp2
  refine ⟨trivial, (callsIn_wide.2 HC).mono ?_⟩
  rintro e W0 ⟨Bl, Bi, b, ls, ao, cap, rfl, hl1, hl2, c1, c2, ho, hl, hf, hc, hb0⟩
  clear HC hWb
  have hs0 := hb0.size
  have HGV := Lib.hid (show gv b ls = (rdo c).getD [] by
    rcases hc with ⟨rfl, h⟩ | ⟨rfl, h⟩
    · rw [h]; rfl
    · rw [h]; rfl)
  have hgl : (gv b ls).length ≤ 120 := by cases b <;> simp [gv] <;> omega
  have y1 := (hb0.block _ (heap_lt x1)).trans x1
  have y2 := (hb0.block _ (heap_lt x2)).trans x2
  have hS := Smr.owns ho
  have hbw := hbb.trans (hb0.mono hbb.size)
  have hlow : w.heap.size ≤ W0.heap.size := by omega
  have hlow2 : w.heap.size + 3 ≤ Wb.heap.size := by omega
  have HC := Lib.hid hc
  clear hsb hc
  clear x0 x1 x2 k0 k1 k2 k3 kz
  gi_wp2
  refine wpIn_rangeFunc_ownH (α := Gz.Smp) rfl (by omega) (gf := 97) (lb := #[.pointer (some ⟨Bl, 0, none⟩), .pointer (some ⟨Bi, 0, none⟩)]) rfl trivial (enters_of Tryd.func97 (by kernel_rfl) rfl)
    (all_stops Fence.wide 2 trivial rfl (by omega) Wb.heap.size W0.heap.size Bl Bi ao cap b ls W0 hl c1 c2 ⟨hl2, heap_lt c2⟩ hS (Nat.le_refl _)) (fun h k => h.trans k) ?kb (Below.refl _ _) (fun _ => rfl)
    (fun pre W => AlI w W0.heap.size (w.heap.size + 1 + 1) (w.heap.size + 1) n pre W ∧ (0 ≤ n → (pre.length : Int) ≤ n))
    (fun c pre W => c = .exit 0 ∧ 0 ≤ n ∧ ∃ pre0 x, pre = pre0 ++ [x] ∧ (pre0.length : Int) = n ∧ AlI w W0.heap.size (w.heap.size + 1 + 1) (w.heap.size + 1) n pre0 W)
    (fun s A B row hs hg hr => ⟨AlI.own w _ _ _ n (by omega) s A B row hs.1 hg hr, hs.2⟩)
    (fun c s A B row hs hg hr => by
      obtain ⟨h1, h2, pre0, x, h3, h4, h5⟩ := hs
      exact ⟨h1, h2, pre0, x, h3, h4, AlI.own w _ _ _ n (by omega) pre0 A B row h5 hg hr⟩)
    ⟨⟨⟨_, y2, World.ownsRow_nil _ _ _ _⟩, y1, hbw, Nat.le_refl _⟩, fun h => by simpa using h⟩
    (fun x a' W => ∃ Bx, W.heap[Bx]? = some (.cells #[.int .i64 x.t, .int .u64 (x.v : Int)] 70 (0, 0)) ∧ a' = { tmps := #[.agg #[.int .i64 c.f, .int .i64 c.t, .int .i64 c.n, u], .int .i64 n, .pointer (some ⟨w.heap.size, 0, none⟩), .pointer (some ⟨w.heap.size + 1, 0, none⟩), .slice none 0 0, .pointer (some ⟨w.heap.size + 1 + 1, 0, none⟩), .pointer (some ⟨Bx, 0, none⟩), .agg #[.int .i64 c.f, .int .i64 c.t, .int .i64 c.n, u], .func (.func 97) #[] #[.pointer (some ⟨Bl, 0, none⟩), .pointer (some ⟨Bi, 0, none⟩)], .agg #[.int .i64 x.t, .int .u64 (x.v : Int)], undef, undef, undef, undef, undef, undef, undef, undef, undef, undef, undef, undef, undef], defers := [] })
    ?hax ?assign ?body ?done ?stop
  case kb =>
    intro W l o o' hl h _ _ k h1 h2
    exact (grownBy_putObj' W l o').block k (by have := heap_lt h; omega) (fun e => by cases e; omega)
  case hax =>
    rintro x a' s A B row ⟨Bx, h1, h2⟩ hg hr
    exact ⟨Bx, own_key hg hr h1, h2⟩
  case assign =>
    rintro l pre x W K ⟨hI, hn⟩ hK
    gi_wp2
    exact hK _ _ ((KeepsOthers.alloc _ _).from _) (fun k h1 h2 => Below.heap_alloc _ _ _ (by have := hI.2.2.2; omega)) ⟨AlI.own w _ _ _ n (by omega) pre W _ none hI (World.grownBy_alloc _ _ _) (fun r e => by cases e), hn⟩ ⟨W.heap.size, heap_alloc_new _ _, rfl⟩
  case body =>
    rintro l pre x a' W hl' ⟨r, hr⟩ ⟨⟨⟨v, hv, hrow⟩, hbn, hB, hB0⟩, hn⟩ ⟨Bx, hBx, rfl⟩ hlt
    obtain ⟨av, cv, rfl⟩ := own_slice hrow
    have q5 : W.cell? ⟨w.heap.size + 1 + 1, 0, none⟩ = some (.slice av pre.length cv) := (cell_of_row _ _ _ _ _ _ hv).trans rfl
    have q3 : W.cell? ⟨w.heap.size + 1, 0, none⟩ = some (.int .i64 n) := (cell_of_row _ _ _ _ _ _ hbn).trans rfl
    obtain ⟨p0, p1⟩ := box2 hBx
    by_cases hn0 : 0 ≤ n
    · have g0 : decide (0 ≤ n) = true := decide_eq_true hn0
      have HN0 := Lib.hid hn0
      clear hn0
      by_cases hnp : n ≤ (pre.length : Int)
      · have g1 : decide (n ≤ (pre.length : Int)) = true := decide_eq_true hnp
        gi_wp2
        exact ⟨KeepsFrom.refl _ _, rfl, HN0.out, pre, x, rfl, by have := hn HN0.out; omega, ⟨_, hv, hrow⟩, hbn, hB, hB0⟩
      · have g1 : decide (n ≤ (pre.length : Int)) = false := decide_eq_false hnp
        gi_wp2_with (gi_at_builtin; refine wpListIn_append_own _ rfl _ _ 22 rfl W0.heap.size 70 i0 (.agg #[.int .i64 0, .int .u64 0]) 2 16 Tryd.underlying22 hi0' hz0 hz1 hz2 rfl (by decide) _ _ _ rfl (hrow.alloc _) ⟨W.heap.size, 0, none⟩ 1 1 [.int .i64 x.t, .int .u64 (x.v : Int)] rfl rfl (news_alloc W [.int .i64 x.t, .int .u64 (x.v : Int)] 70) (by simp [Value.oneCell']) (by unfold maxLen; omega) (by omega) (by simp; omega) ?_; intro v' w1 hown' hgrow _; obtain ⟨g', cap', rfl⟩ := ownsRow_succ hown'; obtain ⟨hv1, hk2, hk3, hI⟩ := AlI.put (lo := Wb.heap.size) hv hrow hbn hB hB0 (by omega) (by omega) (by omega) (by omega) (by omega) hown' hgrow; have hc1 : w1.cell? ⟨w.heap.size + 1 + 1, 0, none⟩ = some (.slice av pre.length cv) := (cell_of_row _ _ _ _ _ _ hv1).trans rfl; have hf1 : w1.frozen? ⟨w.heap.size + 1 + 1, 0, none⟩ = false := frozen_of_row _ _ _ _ _ hv1)
        exact ⟨hk2, hk3, hI, fun _ => by simp; omega⟩
    · have g0 : decide (0 ≤ n) = false := decide_eq_false hn0
      have HN0 := Lib.hid hn0
      clear hn0
      gi_wp2_with (gi_at_builtin; refine wpListIn_append_own _ rfl _ _ 22 rfl W0.heap.size 70 i0 (.agg #[.int .i64 0, .int .u64 0]) 2 16 Tryd.underlying22 hi0' hz0 hz1 hz2 rfl (by decide) _ _ _ rfl (hrow.alloc _) ⟨W.heap.size, 0, none⟩ 1 1 [.int .i64 x.t, .int .u64 (x.v : Int)] rfl rfl (news_alloc W [.int .i64 x.t, .int .u64 (x.v : Int)] 70) (by simp [Value.oneCell']) (by unfold maxLen; omega) (by omega) (by simp; omega) ?_; intro v' w1 hown' hgrow _; obtain ⟨g', cap', rfl⟩ := ownsRow_succ hown'; obtain ⟨hv1, hk2, hk3, hI⟩ := AlI.put (lo := Wb.heap.size) hv hrow hbn hB hB0 (by omega) (by omega) (by omega) (by omega) (by omega) hown' hgrow; have hc1 : w1.cell? ⟨w.heap.size + 1 + 1, 0, none⟩ = some (.slice av pre.length cv) := (cell_of_row _ _ _ _ _ _ hv1).trans rfl; have hf1 : w1.frozen? ⟨w.heap.size + 1 + 1, 0, none⟩ = false := frozen_of_row _ _ _ _ _ hv1)
      exact ⟨hk2, hk3, hI, fun h => by have := HN0.out; omega⟩
  case done =>
    rintro D xs W hD rfl ⟨⟨⟨v, hv, hrow⟩, hbn, hB, hB0⟩, hn⟩ hK
    obtain ⟨av, cv, rfl⟩ := own_slice hrow
    have q5 : W.cell? ⟨w.heap.size + 1 + 1, 0, none⟩ = some (.slice av (gv b ls).length cv) := (cell_of_row _ _ _ _ _ _ hv).trans rfl
    have hal : al n c = gv b ls := by
      unfold al
      rw [← HGV.out]
      split
      · rfl
      · exact List.take_of_length_le (by have := hn (by omega); omega)
    gi_wp2
    refine ⟨by simp, .inl ⟨_, _, rfl, run_takeDeferred hK, ?_⟩⟩
    exact ⟨_, results_tmp rfl _ _ _, _, rfl, by rw [hal]; exact own_low (ownsRow_putObj hrow _ hK rfl) hlow, hB.trans (belowK_b (w := w) (Nat.le_refl _) W D _ _ (by omega) hK rfl rfl)⟩
  case stop =>
    rintro D c' pre W hD hpre ⟨rfl, hn0, pre0, x, rfl, hln, ⟨v, hv, hrow⟩, hbn, hB, hB0⟩ hK
    obtain ⟨av, cv, rfl⟩ := own_slice hrow
    have q5 : W.cell? ⟨w.heap.size + 1 + 1, 0, none⟩ = some (.slice av pre0.length cv) := (cell_of_row _ _ _ _ _ _ hv).trans rfl
    have hal : al n c = pre0 := by
      unfold al
      rw [if_neg (by omega), ← HGV.out]
      obtain ⟨t, ht⟩ := hpre
      rw [← ht, show n.toNat = pre0.length by omega, List.append_assoc, List.take_left]
    gi_wp2
    refine ⟨by simp, .inl ⟨_, _, rfl, run_takeDeferred hK, ?_⟩⟩
    exact ⟨_, results_tmp rfl _ _ _, _, rfl, by rw [hal]; exact own_low (ownsRow_putObj hrow _ hK rfl) hlow, hB.trans (belowK_b (w := w) (Nat.le_refl _) W D _ _ (by omega) hK rfl rfl)⟩
end Go.Proofs.YtepjpdhmjchakaaDoor
