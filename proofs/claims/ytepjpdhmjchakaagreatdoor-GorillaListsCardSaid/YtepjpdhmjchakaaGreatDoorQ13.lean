import Derived.Test.YtepjpdhmjchakaaGreatDoorQ12
import Derived.RangeFuncNested
import Derived.RangeFuncBound
import Derived.RangeFuncCalls
import Derived.RangeFuncLeaves
import Derived.RangeFuncBox
import Derived.Shelf.Abstract
import Derived.Shelf.RegionOpen
import Derived.OwnWalkIn
import Derived.TacticsInMore
import Derived.LoopNIn
import Derived.LoopIn
import Derived.Maps.AppendAt
/- All's iterator, as a range over it wants it. -/
namespace Go.Proofs.YtepjpdhmjchakaaGreatDoor
open Go.RowKit Go.Shelf
set_option linter.unusedVariables false
attribute [local go_sem] Oper.semAt_some

/-- The samples of a row, in a block from lo on, below hi. -/
def Smr (lo hi : Nat) (w : World) (ao : Option Addr) (l : List Gz.Smp) : Prop :=
  l ≠ [] → ∃ b, ao = some ⟨b, 0, none⟩ ∧ lo ≤ b ∧ b < hi ∧ ∀ j (h : j < l.length), w.cell? ⟨b, j * 2, none⟩ = some (.int .i64 l[j].t) ∧ w.cell? ⟨b, j * 2 + 1, none⟩ = some (.int .u64 (l[j].v : Int))
theorem Smr.same {lo hi : Nat} {w w' : World} {ao : Option Addr} {l : List Gz.Smp} (h : Smr lo hi w ao l) (hs : Same lo hi w w') : Smr lo hi w' ao l := by
  intro hne
  obtain ⟨b, h1, h2, h3, h4⟩ := h hne
  exact ⟨b, h1, h2, h3, fun j hj => ⟨(World.cell?_of_block (hs b h2 h3)).trans (h4 j hj).1, (World.cell?_of_block (hs b h2 h3)).trans (h4 j hj).2⟩⟩
theorem Smr.owns {w : World} {base cap : Nat} {ao : Option Addr} {l : List Gz.Smp} (h : w.ownsRow base 79 2 (.slice ao l.length cap) l.length (smCs l)) : Smr base w.heap.size w ao l := by
  intro hne
  have hp := List.length_pos_iff.2 hne
  have hx := h
  obtain ⟨_, ⟨h1, hn⟩ | ⟨g, cp, cur, h1, hbg, hh, h2, h3, h4, h5⟩⟩ := h
  · omega
  · injection h1 with h1 _ _
    subst h1
    refine ⟨g, rfl, hbg, (Array.getElem?_eq_some_iff.1 hh).1, fun j hj => ?_⟩
    have hc := hx.cells (g := g) rfl
    obtain ⟨g0, g1⟩ := smCs_get hj
    have c0 := hc _ _ g0
    have c1 := hc _ _ g1
    rw [Addr.add_lit, Nat.zero_add] at c0 c1
    exact ⟨c0, c1⟩
/-- What All gives, of a chunk's reading. -/
def gv (b : Bool) (ls : List Gz.Smp) : List Gz.Smp := if b = true then ls else []

set_option maxRecDepth 100000 in
set_option maxHeartbeats 1000000 in
theorem all1_true (F : Fence) (n : Nat) (hf : F.fn 73) (hro : F.round = none) (hn : 1 ≤ n) (l lo hi Bl Bi : Nat) (ao : Option Addr) (cap : Nat) (ls : List Gz.Smp) (J Jx : List Gz.Smp → World → Prop)
    (hY : ∀ pre x W1, J pre W1 → pre.length < ls.length → YieldAt F (n - 1) Tryz.prog l #[.agg #[.int .i64 x.t, .int .u64 (x.v : Int)]] W1 fun e W' =>
      (e = .returned (.bool true) ∧ J (pre ++ [x]) W' ∧ Same lo hi W1 W') ∨ (e = .returned (.bool false) ∧ Jx (pre ++ [x]) W'))
    (W : World) (hJ : AbidesFrom W.heap.size J) (hl : ls.length ≤ 120) (hBl : W.cell? ⟨Bl, 0, none⟩ = some (.slice ao ls.length cap)) (hBi : W.cell? ⟨Bi, 0, none⟩ = some (.bool true)) (b2 : lo ≤ Bi ∧ Bi < hi) (hS : Smr lo hi W ao ls) (hh : hi ≤ W.heap.size) (h0 : J [] W) :
    CallsIn F n Tryz.prog 73 #[.func (.yield l) #[] #[], .pointer (some ⟨Bl, 0, none⟩), .pointer (some ⟨Bi, 0, none⟩)] W fun e W' => (∃ v, e = .returned v) ∧
      ((∃ ys, ys = ls ∧ J ys W') ∨ (∃ pre, pre <+: ls ∧ Jx pre W')) := by
  refine callsIn_of_wp Tryz.func73 rfl hf ?_ hro
  simp only [Tryz.ntmps73, List.size_toArray, List.length_cons, List.length_nil, Nat.reduceAdd, Nat.reduceSub, Array.replicate_succ, Array.replicate_zero, List.push_toArray, List.append_toArray, List.nil_append, List.cons_append]
  gi_wp2
  gi_loopw [8] (fun i wr => ∃ k : Nat, k ≤ ls.length ∧ i = .int .i64 k ∧ J (ls.take k) wr ∧ Same lo hi W wr) (fun i _ => ls.length - (intOf i).toNat)
  case atStart => exact ⟨0, Nat.zero_le _, rfl, h0, Same.refl _ _ _⟩
  case round =>
    obtain ⟨k, hk, rfl, hJs, hsm⟩ := hrel
    by_cases hlt : k < ls.length
    · obtain ⟨b, hao, hb1, hb2, hcs⟩ := (hS.same hsm) (by intro e; subst e; simp at hlt)
      subst hao
      obtain ⟨c0, c1⟩ := hcs k hlt
      have ci : wr.cell? ⟨Bi, 0, none⟩ = some (.bool true) := (World.cell?_of_block (hsm Bi b2.1 b2.2)).trans hBi
      have hx : ls.take (k + 1) = ls.take k ++ [ls[k]] := List.take_succ_eq_append_getElem hlt
      have i1 : (0 : Int) ≤ (k : Int) ∧ (k : Int) < (ls.length : Int) := by omega
      have hpl : (ls.take k).length < ls.length := by simp; omega
      clear hcs
      generalize ls[k] = x at *
      have ci2 := cell_al (o := .cells #[.int .i64 x.t, .int .u64 (x.v : Int)] 79) ci
      have hJ2 : J (ls.take k) (wr.alloc (.cells #[.int .i64 x.t, .int .u64 (x.v : Int)] 79)) := hJ _ _ _ none hJs (World.grownBy_alloc _ _ _) (fun r e => by cases e)
      have hs2 : Same lo hi wr (wr.alloc (.cells #[.int .i64 x.t, .int .u64 (x.v : Int)] 79)) := fun q h1 h2 => Below.heap_alloc _ _ _ (Array.getElem?_eq_some_iff.1 ((hsm q h1 h2).trans (Array.getElem?_eq_getElem (Nat.lt_of_lt_of_le h2 hh)))).1
      obtain ⟨fn, tmps, assign, body, hy, hR⟩ := hY (ls.take k) x _ hJ2 hpl
      gi_wp2
      refine hR.mono ?_
      rintro e W3 (⟨rfl, hJ3, hk3⟩ | ⟨rfl, hJx3⟩)
      · gi_wp2
        go_roundw
        case rel => exact ⟨k + 1, by omega, by simp, by rw [hx]; exact hJ3, (hsm.trans hs2).trans hk3⟩
        case measure => simp [intOf]; omega
      · gi_wp2
        refine bodyPost_ret (results_none rfl _ _ _) rfl ?_
        exact ⟨⟨_, rfl⟩, .inr ⟨_, ⟨ls.drop (k + 1), by rw [← hx, List.take_append_drop]⟩, hJx3⟩⟩
    · obtain rfl : k = ls.length := by omega
      gi_wp2
      go_end0
      exact ⟨⟨_, rfl⟩, .inl ⟨_, List.take_length, hJs⟩⟩
set_option maxRecDepth 100000 in
set_option maxHeartbeats 1000000 in
theorem all1_false (F : Fence) (n : Nat) (hf : F.fn 73) (hro : F.round = none) (l lo hi Bl Bi : Nat) (ao : Option Addr) (cap : Nat) (ls : List Gz.Smp) (J : List Gz.Smp → World → Prop)
    (W : World) (hJ : AbidesFrom W.heap.size J) (hl : ls.length ≤ 120) (hBl : W.cell? ⟨Bl, 0, none⟩ = some (.slice ao ls.length cap)) (hBi : W.cell? ⟨Bi, 0, none⟩ = some (.bool false)) (hS : Smr lo hi W ao ls) (h0 : J [] W) :
    CallsIn F n Tryz.prog 73 #[.func (.yield l) #[] #[], .pointer (some ⟨Bl, 0, none⟩), .pointer (some ⟨Bi, 0, none⟩)] W fun e W' => (∃ v, e = .returned v) ∧ J [] W' := by
  refine callsIn_of_wp Tryz.func73 rfl hf ?_ hro
  simp only [Tryz.ntmps73, List.size_toArray, List.length_cons, List.length_nil, Nat.reduceAdd, Nat.reduceSub, Array.replicate_succ, Array.replicate_zero, List.push_toArray, List.append_toArray, List.nil_append, List.cons_append]
  gi_wp2
  gi_loopw [8] (fun i wr => i = .int .i64 0 ∧ wr = W) (fun _ _ => 0)
  case atStart => exact ⟨rfl, rfl⟩
  case round =>
    obtain ⟨rfl, hw⟩ := hrel
    subst hw
    by_cases hlt : 0 < ls.length
    · obtain ⟨b, hao, hb1, hb2, hcs⟩ := hS (by intro e; subst e; simp at hlt)
      subst hao
      obtain ⟨c0, c1⟩ := hcs 0 hlt
      have i1 : (0 : Int) ≤ 0 ∧ (0 : Int) < (ls.length : Int) := by omega
      clear hcs
      rw [Nat.zero_mul] at c0
      rw [Nat.zero_mul] at c1
      generalize ls[0] = x at *
      have ci2 := cell_al (o := .cells #[.int .i64 x.t, .int .u64 (x.v : Int)] 79) hBi
      have hJ2 : J [] (wr.alloc (.cells #[.int .i64 x.t, .int .u64 (x.v : Int)] 79)) := hJ _ _ _ none h0 (World.grownBy_alloc _ _ _) (fun r e => by cases e)
      gi_wp2
      refine ⟨fun _ h => (by cases h), ?_⟩
      gi_wp2
      refine bodyPost_ret (results_none rfl _ _ _) rfl ?_
      exact ⟨⟨_, rfl⟩, hJ2⟩
    · have e0 : ls.length = 0 := by omega
      gi_wp2
      go_end0
      exact ⟨⟨_, rfl⟩, h0⟩

/-- What All hands back gives the samples, or some of the first of them. -/
theorem all_stops (F : Fence) (n : Nat) (hf : F.fn 73) (hro : F.round = none) (hn : 1 ≤ n) (lo hi Bl Bi : Nat) (ao : Option Addr) (cap : Nat) (b : Bool) (ls : List Gz.Smp) (w : World) (hl : ls.length ≤ 120)
    (c1 : w.heap[Bl]? = some (.cells #[.slice ao ls.length cap] 22 (0, 0))) (c2 : w.heap[Bi]? = some (.cells #[.bool b] 4 (0, 0))) (b2 : lo ≤ Bi ∧ Bi < hi) (hS : Smr lo hi w ao ls) (hh : hi ≤ w.heap.size) :
    SeqStopsK F n Tryz.prog 73 #[.pointer (some ⟨Bl, 0, none⟩), .pointer (some ⟨Bi, 0, none⟩)] (fun x : Gz.Smp => #[.agg #[.int .i64 x.t, .int .u64 (x.v : Int)]]) (Same lo hi) (fun ys => ys = gv b ls) (fun pre => pre <+: gv b ls) (gv b ls).length w := by
  intro l J Jx W hW hJ _ hY h0
  have d1 : W.cell? ⟨Bl, 0, none⟩ = some (.slice ao ls.length cap) := (cell_of_row _ _ _ _ _ _ ((hW.block Bl (heap_lt c1)).trans c1)).trans rfl
  have d2 : W.cell? ⟨Bi, 0, none⟩ = some (.bool b) := (cell_of_row _ _ _ _ _ _ ((hW.block Bi (heap_lt c2)).trans c2)).trans rfl
  have hS2 := hS.same (Same.ofBelow hW lo hi hh)
  cases b
  · exact (all1_false F n hf hro l lo hi Bl Bi ao cap ls J W hJ hl d1 d2 hS2 h0).mono fun e W' ⟨he, hj⟩ => ⟨he, .inl ⟨[], rfl, hj⟩⟩
  · exact all1_true F n hf hro hn l lo hi Bl Bi ao cap ls J Jx hY W hJ hl d1 d2 b2 hS2 (Nat.le_trans hh hW.size) h0
end Go.Proofs.YtepjpdhmjchakaaGreatDoor

/- The law's all: a chunk's samples by ranging over them, the first n. Condition: the library's table of trailing noughts (TabW). -/
namespace Go.Proofs.YtepjpdhmjchakaaGreatDoor
open Go.RowKit Go.Shelf
set_option linter.unusedVariables false
attribute [local go_sem] Oper.semAt_some

/-- The samples that all gives. -/
noncomputable def al (n : Int) (c : Cki) : List Gz.Smp := if n < 0 then (rdo c).getD [] else ((rdo c).getD []).take n.toNat
/-- Between two rounds. -/
def AlI (w : World) (B0 Bo Bn : Nat) (n : Int) (pre : List Gz.Smp) (W : World) : Prop :=
  (∃ v, W.heap[Bo]? = some (.cells #[v] 22 (0, 0)) ∧ W.ownsRow B0 79 2 v pre.length (smCs pre)) ∧ W.heap[Bn]? = some (.cells #[.int .i64 n] 3 (0, 0)) ∧ Below w.heap.size w W ∧ B0 ≤ W.heap.size
theorem own_key {B0 : Nat} {X Y : World} {row : Option Nat} (hg : X.grownBy Y row) (hr : ∀ r, row = some r → B0 ≤ r ∧ ∃ o : Obj, X.heap[r]? = some o ∧ o.isCells = false) {k : Nat} {cs : Array Value} {t : TypeId} (hk : X.heap[k]? = some (.cells cs t (0, 0))) : Y.heap[k]? = some (.cells cs t (0, 0)) := by
  refine (hg.block k (heap_lt hk) (fun e => ?_)).trans hk
  obtain ⟨_, o, ho, hc⟩ := hr k e.symm
  rw [hk] at ho
  cases ho
  cases hc
theorem own_cells {w : World} {base : Nat} {e : TypeId} {size : Nat} {v : Value} {n : Nat} {xs : List Value} (h : w.ownsRow base e size v n xs) {j : Nat} {o : Obj} (hj : v.ownBlock = some j) (ho : w.heap[j]? = some o) : o.isCells = true := by
  obtain ⟨cs, hc⟩ := own_block h j hj
  rw [hc] at ho
  injection ho with ho
  subst ho
  rfl
/-- What an append into the box at Bo leaves. -/
theorem AlI.put {w W w1 : World} {B0 Bo Bn lo : Nat} {n : Int} {pre : List Gz.Smp} {x : Gz.Smp} {v v' : Value} {o : Obj} (hv : W.heap[Bo]? = some (.cells #[v] 22 (0, 0))) (hrow : W.ownsRow B0 79 2 v pre.length (smCs pre)) (hbn : W.heap[Bn]? = some (.cells #[.int .i64 n] 3 (0, 0)))
    (hB : Below w.heap.size w W) (hB0 : B0 ≤ W.heap.size) (hlo : Bo < lo) (hlo2 : lo ≤ B0) (hne : Bn ≠ Bo) (hbo : w.heap.size ≤ Bo) (hbo2 : Bn < B0)
    (hown : w1.ownsRow B0 79 2 v' (pre.length + 1) (smCs pre ++ [.int .i64 x.t, .int .u64 (x.v : Int)])) (hg : (W.alloc o).grownBy w1 v.ownBlock) :
    w1.heap[Bo]? = some (.cells #[v] 22 (0, 0)) ∧ KeepsFrom B0 W (w1.setCell ⟨Bo, 0, none⟩ v') ∧ Same lo B0 W (w1.setCell ⟨Bo, 0, none⟩ v') ∧ AlI w B0 Bo Bn n (pre ++ [x]) (w1.setCell ⟨Bo, 0, none⟩ v') := by
  have hlt : ∀ k, v.ownBlock = some k → B0 ≤ k ∧ k < W.heap.size := fun k hk => hrow.lt k hk
  have b1 : w1.heap[Bo]? = some (.cells #[v] 22 (0, 0)) := (hg.block Bo (by simp; have := heap_lt hv; omega) (fun e => by have := hlt Bo e.symm; omega)).trans ((Below.heap_alloc _ _ _ (heap_lt hv)).trans hv)
  have b2 : w1.heap[Bn]? = some (.cells #[.int .i64 n] 3 (0, 0)) := (hg.block Bn (by simp; have := heap_lt hbn; omega) (fun e => by have := hlt Bn e.symm; omega)).trans ((Below.heap_alloc _ _ _ (heap_lt hbn)).trans hbn)
  have hs1 := hg.size
  simp at hs1
  refine ⟨b1, ?_, fun k h1 h2 => ?_, ⟨v', by rw [heap_setCell_same _ _ _ _ _ _ b1]; rfl, ?_⟩, ?_, ?_, by simp; omega⟩
  · refine KeepsOthers.from (((KeepsOthers.alloc W o).trans (KeepsOthers.of_grownBy hg fun j o' ej hj => ?_)).trans (KeepsOthers.setCell _ _ _)) _
    exact own_cells (hrow.alloc o) ej hj
  · rw [heap_setCell_other _ _ _ _ (show k ≠ Bo by omega)]
    exact (hg.block k (by simp; omega) (fun e => by have := hlt k e.symm; omega)).trans (Below.heap_alloc _ _ _ (by omega))
  · rw [List.length_append, smCs_snoc]
    exact own_of_same hown (fun k hk => heap_setCell_other _ _ _ _ (show k ≠ Bo by have := hown.lt k hk; omega))
  · rw [heap_setCell_other _ _ _ _ hne]
    exact b2
  · exact ((hB.alloc hB.size o).grown hg (by simp; have := hB.size; omega) (fun k hk => by have := hlt k hk; omega)).setCell (p := ⟨Bo, 0, none⟩) hbo _
theorem AlI.own (w : World) (B0 Bo Bn : Nat) (n : Int) (hB : w.heap.size ≤ B0) : OwnFrom B0 (AlI w B0 Bo Bn n) := by
  rintro pre X Y row ⟨⟨v, h1, h2⟩, h3, h4, h5⟩ hg hr
  refine ⟨⟨v, own_key hg hr h1, h2.kept hg ?_⟩, own_key hg hr h3, h4.grown hg h4.size (fun k hk => by have := (hr k hk).1; omega), Nat.le_trans h5 hg.size⟩
  rcases hvb : v.ownBlock with _ | k
  · exact .inl rfl
  · refine .inr (fun e => ?_)
    obtain ⟨cs, hk⟩ := own_block h2 k hvb
    obtain ⟨_, o, ho, hc⟩ := hr k e.symm
    rw [hk] at ho
    cases ho
    cases hc

end Go.Proofs.YtepjpdhmjchakaaGreatDoor
