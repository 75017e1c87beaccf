import Derived.Test.YtepjpdhmjchakaaGreatDoorP2
import Derived.Test.YtepjpdhmjchakaaGreatDoorQ1
import Derived.Test.YtepjpdhmjchakaaGreatDoorP13
import Derived.WalkSpells
import Derived.Deep.RegionHeld3
import Derived.Deep.QuietTactic
import Derived.BigQuiet
/- LentBytes, WholeBytes, SpoilBytes: what they do. -/
namespace Go.Proofs.YtepjpdhmjchakaaGreatDoor
open Go.RowKit

set_option maxRecDepth 100000 in
theorem lent_any (lo hi : Nat) (w : World) (v : Value) (l : List UInt8) (hv : Sl lo hi f8 w v l) (hhi : hi ≤ w.heap.size) :
    Calls Tryz.prog 20 #[v] w fun e w' => ∃ g, e = .returned (.slice (some ⟨g, 0, none⟩) l.length (l.length + 2)) ∧ w.heap.size ≤ g ∧
      w'.heap[g]? = some (.cells (l.map f8 ++ [Value.int .u8 91, Value.int .u8 92]).toArray 5 (0, 0)) ∧ Below w.heap.size w w' := by
  obtain ⟨ao, cap, rfl, hv⟩ := hv
  have hl := hv.len
  obtain ⟨i0, hi0, hz0, hz1, hz2⟩ := info_parts info5
  go_enter Tryz.func20, Tryz.ntmps20
  go_wp2_with (first
    | (at_make; go_loud (refine wpList_make_own _ rfl _ _ 24 rfl w.heap.size 5 i0 (.int .u8 0) 1 Tryz.underlying24 hi0 hz0 hz1 .i64 .i64 _ (l.length + 2) rfl rfl (by simp) (by rw [hz2]; omega) (by unfold maxLen; omega) (Nat.le_refl _) ?_); intro w1 hown1 hgrow1)
    | (at_builtin; refine wpList_append_fits_any _ rfl (.tmp 8) (.tmp 9) 24 rfl w.heap.size 5 i0 1 Tryz.underlying24 hi0 hz1 _ 0 (l.length + 2) _ rfl hown1 ao l.length cap (l.map f8) rfl (by simp) hv.none (hv.below ((Below.refl _ _).grown hgrow1 (Nat.le_refl _) (by simp)) hhi).news (f8_one l) (by omega) ?_; intro w2 hown2 hgrow2; simp only [Nat.zero_add, List.nil_append] at hown2)
    | (at_builtin; refine wpList_append_fits _ rfl (.tmp 11) (.tmp 12) 24 rfl w.heap.size 5 i0 1 Tryz.underlying24 hi0 hz1 _ l.length (l.length + 2) _ rfl (hown2.alloc _) ⟨w2.heap.size, 0, none⟩ 2 2 [.int .u8 91, .int .u8 92] rfl rfl (news_alloc w2 [.int .u8 91, .int .u8 92] 5) (by simp [Value.oneCell']) (by omega) ?_; intro w3 hown3 hgrow3)
    )
  go_ret
  obtain ⟨_, hg⟩ := own_full hown3
  have hb1 := (Below.refl w.heap.size w).grown hgrow1 (Nat.le_refl _) (by simp)
  have hb2 := hb1.grown hgrow2 hb1.size (by simp)
  refine ⟨w.heap.size, rfl, Nat.le_refl _, hg, ?_⟩
  exact (hb2.alloc hb2.size _).grown hgrow3 (by have := hb2.size; simp; omega) (by simp)

theorem lent_sl {w : World} {g : Nat} {l : List UInt8} (hl : l.length ≤ 140737488355328) (hg : w.heap[g]? = some (.cells (l.map f8 ++ [Value.int .u8 91, Value.int .u8 92]).toArray 5 (0, 0))) :
    Sl g (g + 1) f8 w (.slice (some ⟨g, 0, none⟩) l.length (l.length + 2)) l := by
  refine ⟨_, _, rfl, hl, (fun h => by cases h), fun _ => ⟨g, 0, rfl, Nat.le_refl _, Nat.lt_succ_self _, fun j hj => ?_⟩, by omega⟩
  rw [cell_of_row _ _ _ _ _ _ hg]
  simp [List.getElem?_append_left, hj]

theorem whole_any (lo hi g : Nat) (w : World) (v' : Value) (l l' : List UInt8) (hl : l.length ≤ 140737488355328) (hg : w.heap[g]? = some (.cells (l.map f8 ++ [Value.int .u8 91, Value.int .u8 92]).toArray 5 (0, 0)))
    (hv' : Sl lo hi f8 w v' l') :
    Calls Tryz.prog 27 #[.slice (some ⟨g, 0, none⟩) l.length (l.length + 2), v'] w fun e w' => e = .returned (.bool (sameB l l')) ∧ ∃ n, w' = w.drewN n := by
  have hs := same_any g (g + 1) lo hi w _ v' l l' (lent_sl hl hg) hv'
  have c0 : w.cell? ⟨g, l.length, none⟩ = some (.int .u8 91) := by rw [cell_of_row _ _ _ _ _ _ hg]; simp
  have c1 : w.cell? ⟨g, l.length + 1, none⟩ = some (.int .u8 92) := by rw [cell_of_row _ _ _ _ _ _ hg]; simp
  have HS := Lib.hid hs
  clear hs hg
  go_enter Tryz.func27, Tryz.ntmps27
  go_wp2_with (go_at_call 33; refine HS.out.mono ?_; rintro e w1 ⟨rfl, n, rfl⟩)
  go_ret
  exact ⟨rfl, n, rfl⟩


theorem spoil_any (g n : Nat) (w : World) (cs : Array Value) (hn : n ≤ 140737488355330) (hcs : cs.size = n) (hg : w.heap[g]? = some (.cells cs 5 (0, 0))) (m : Nat) :
    Calls Tryz.prog 28 #[.slice (some ⟨g, 0, none⟩) m n] w fun e w' => e = .returned (.tuple #[]) ∧ w.grownBy w' (some g) := by
  go_enter Tryz.func28, Tryz.ntmps28
  go_wp2
  go_loopw [3] (fun i wr => ∃ (k : Nat) (cs' : Array Value), k ≤ n ∧ i = .int .i64 k ∧ cs'.size = n ∧ wr.heap[g]? = some (.cells cs' 5 (0, 0)) ∧ w.grownBy wr (some g)) (fun i _ => n - (intOf i).toNat)
  case atStart => exact ⟨0, cs, by omega, rfl, hcs, hg, World.grownBy.refl _ _⟩
  case round =>
    obtain ⟨k, cs', hk, rfl, hcs', hg', hgr⟩ := hrel
    by_cases hlt : k < n
    · have hc : ∃ v, wr.cell? ⟨g, k, none⟩ = some v := ⟨cs'[k]'(by omega), by rw [cell_of_row _ _ _ _ _ _ hg', Array.getElem?_eq_getElem]⟩
      obtain ⟨v, hc⟩ := hc
      have hf : wr.frozen? ⟨g, k, none⟩ = false := frozen_of_row _ _ _ _ _ hg'
      have HG := Lib.hid hg'
      have HC := Lib.hid hcs'
      clear hg' hcs' hg hcs
      go_wp2
      go_roundw
      case rel =>
        refine ⟨k + 1, cs'.setIfInBounds k (.int .u8 238), by omega, by go_num, by rw [Array.size_setIfInBounds]; exact HC.out, heap_setCell_same _ _ _ _ _ _ HG.out, ?_⟩
        exact ⟨hgr.os, hgr.tape, hgr.output, by simpa using hgr.size, fun i hi hne => (Below.heap_setCell _ _ _ _ (by intro e; exact hne (by rw [e]))).trans (hgr.block i hi hne)⟩
      case measure => simp [intOf]; omega
    · go_wp2
      go_end0
      exact ⟨rfl, hgr⟩
end Go.Proofs.YtepjpdhmjchakaaGreatDoor

/- LentChunks, WholeChunks: what they do. -/
namespace Go.Proofs.YtepjpdhmjchakaaGreatDoor
open Go.RowKit
set_option linter.unusedVariables false

theorem step_append_fits {P : Program} {ops : Array Oper} {o : Oper} {a : Act} {w : World} {K : Act → World → Prop} {Q : Exit → Act → World → Prop} {E : Prop}
    (hg : o.guard = none) (s x : Operand) (t : TypeId) (hop : o.op = Op.call { callee := Callee.builtin Builtin.append, args := #[s, x], argTypes := #[t, t] })
    (base : Nat) (e : TypeId) (i : TypeInfo) (size : Nat) (h1 : P.underlying t = some (.slice e)) (h2 : P.info? e = some i) (h4 : i.size = size)
    (g k cap : Nat) (xs : List Value) (hs : a.eval s = .slice (some ⟨g, 0, none⟩) k cap) (hown : w.ownsRow base e size (.slice (some ⟨g, 0, none⟩) k cap) k xs) (ad : Addr) (m c : Nat) (news : List Value) (hx : a.eval x = .slice (some ad) m c) (hn : news.length = m * size)
    (hc : ∀ j u, news[j]? = some u → w.cell? (ad.add j) = some u) (h1c : ∀ u ∈ news, u.oneCell' = true) (b1 : k + m ≤ cap)
    (hK : ∀ w', w'.ownsRow base e size (.slice (some ⟨g, 0, none⟩) (k + m) cap) (k + m) (xs ++ news) → w.grownBy w' (some g) → K (a.put o.dst (.slice (some ⟨g, 0, none⟩) (k + m) cap)) w') :
    if Region.wanted o (yielded ops a.tmps) = true then Oper.wp P o a w K Q else E := by
  have hw : Region.wanted o (yielded ops a.tmps) = true := by simp [Region.wanted, hg]
  rw [if_pos hw]
  obtain ⟨w', hrun, r1, r2⟩ := run_append_fits (P := P) w base t o.type e i size h1 h2 h4 g k cap xs hown ad m c news hn hc h1c b1
  unfold Oper.wp
  simp [execOp, hop, resolve, invoke, builtin, hs, hx, hrun, Result.andThen]
  exact hK w' r1 r2
/-- A row of the call's own that is full: its block's very cells. -/
theorem own_fulls {w : World} {base : Nat} {e : TypeId} {size g n : Nat} {xs : List Value} (hsz : 0 < size) (hn : 0 < n) (h : w.ownsRow base e size (.slice (some ⟨g, 0, none⟩) n n) n xs) :
    base ≤ g ∧ w.heap[g]? = some (.cells xs.toArray e (0, 0)) := by
  obtain ⟨hl, h | ⟨g', cap, cur, hv, hb, hh, h1, h2, h3, h4⟩⟩ := h
  · simp at h
  · simp only [Value.slice.injEq, Option.some.injEq, Addr.mk.injEq] at hv
    obtain ⟨⟨rfl, -⟩, -, rfl⟩ := hv
    refine ⟨hb, ?_⟩
    rw [hh, ← h4, List.take_of_length_le (by simp [h3])]

/-- The cells of chunks; us are their slices. -/
def cki4 (c : Cki) (u : Value) : List Value := [.int .i64 c.f, .int .i64 c.t, .int .i64 c.n, u]
def ckis (cs : List Cki) (us : List Value) : List Value := (List.zipWith cki4 cs us).flatten
theorem ckis_snoc {cs : List Cki} {us : List Value} (h : us.length = cs.length) (c : Cki) (u : Value) : ckis (cs ++ [c]) (us ++ [u]) = ckis cs us ++ cki4 c u := by
  unfold ckis
  rw [List.zipWith_append h.symm]
  simp
theorem ckis_len : ∀ {cs : List Cki} {us : List Value} (h : us.length = cs.length), (ckis cs us).length = cs.length * 4
  | [], [], _ => rfl
  | c :: cs, u :: us, h => by
    have := ckis_len (cs := cs) (us := us) (by simpa using h)
    simp only [ckis, List.zipWith_cons_cons, List.flatten_cons, List.length_append, List.length_cons] at *
    simp only [cki4, List.length_cons, List.length_nil]
    omega
  | [], _ :: _, h => by simp at h
  | _ :: _, [], h => by simp at h
theorem ckis_get : ∀ {cs : List Cki} {us : List Value} (h : us.length = cs.length) {j : Nat} (hj : j < cs.length) (hj' : j < us.length) (i : Nat) (hi : i < 4), (ckis cs us)[j * 4 + i]? = (cki4 cs[j] us[j])[i]?
  | [], _, _, _, hj, _, _, _ => by simp at hj
  | _ :: _, [], h, _, _, _, _, _ => by simp at h
  | c :: cs, u :: us, h, 0, hj, hj', i, hi => by
    rw [show ckis (c :: cs) (u :: us) = cki4 c u ++ ckis cs us by simp [ckis], List.getElem?_append_left (by simp [cki4]; omega)]
    simp
  | c :: cs, u :: us, h, j + 1, hj, hj', i, hi => by
    have ih := ckis_get (cs := cs) (us := us) (by simpa using h) (j := j) (by simpa using hj) (by simpa using hj') i hi
    rw [show ckis (c :: cs) (u :: us) = cki4 c u ++ ckis cs us by simp [ckis], List.getElem?_append_right (by simp [cki4]; omega)]
    rw [show (j + 1) * 4 + i - (cki4 c u).length = j * 4 + i by simp [cki4]; omega]
    simpa using ih
theorem cki4_one {c : Cki} {u : Value} (hu : u.oneCell' = true) : ∀ x ∈ cki4 c u, x.oneCell' = true := by
  intro x hx
  simp [cki4] at hx
  rcases hx with rfl | rfl | rfl | rfl
  · rfl
  · rfl
  · rfl
  · exact hu
theorem cell_al2 {w : World} {a : Addr} {v : Value} {o : Obj} (h : w.cell? a = some v) : (w.alloc o).cell? a = some v :=
  (World.cell?_of_block (Below.heap_alloc _ _ _ (block_lt_of_cell h))).trans h
theorem infoCh4 : (Tryz.prog.info? 26).map (fun i => (i.zero, i.size, i.bytes)) = some (some (.agg #[.int .i64 0, .int .i64 0, .int .i64 0, .slice none 0 0]), 4, 48) := by kernel_rfl

/-- A lent slice of bytes at u. -/
def LB (w : World) (base : Nat) (u : Value) (l : List UInt8) : Prop := ∃ gi, u = .slice (some ⟨gi, 0, none⟩) l.length (l.length + 2) ∧ w.heap[gi]? = some (.cells (l.map f8 ++ [Value.int .u8 91, Value.int .u8 92]).toArray 5 (0, 0)) ∧ base ≤ gi
/-- The lent chunks: the list at block g, each one's bytes at a block of its own, with room behind. -/
structure LC (w : World) (base g : Nat) (us : List Value) (cs : List Cki) : Prop where
  blk : w.heap[g]? = some (.cells (ckis cs us ++ [Value.int .i64 0, Value.int .i64 0, Value.int .i64 (-77), Value.slice none 0 0]).toArray 26 (0, 0))
  len : us.length = cs.length
  each : ∀ (i : Nat) (u : Value) (c : Cki), us[i]? = some u → cs[i]? = some c → LB w base u c.d
  inc : ∀ (i j : Nat) (u v : Value) (a b : Nat), us[i]? = some u → us[j]? = some v → u.ownBlock = some a → v.ownBlock = some b → i < j → a < b
  lo : base ≤ g
theorem LC.below {w w' : World} {base g B : Nat} {us : List Value} {cs : List Cki} (h : LC w base g us cs) (hb : Below B w w') (hB : w.heap.size ≤ B) : LC w' base g us cs := by
  refine ⟨(hb.block g (Nat.lt_of_lt_of_le (heap_lt h.blk) hB)).trans h.blk, h.len, fun i u r hu hr => ?_, h.inc, h.lo⟩
  obtain ⟨gi, h1, h2, h3⟩ := h.each i u r hu hr
  exact ⟨gi, h1, (hb.block gi (Nat.lt_of_lt_of_le (heap_lt h2) hB)).trans h2, h3⟩
/-- The lent chunks as a slice that is read. -/
theorem LC.chs {w : World} {base g : Nat} {us : List Value} {cs : List Cki} (h : LC w base g us cs) (hn : cs.length ≤ 1000000) (hr : ∀ c ∈ cs, c.d.length ≤ 140737488355328) : Chs w.heap.size w (some ⟨g, 0, none⟩) (cs.length + 1) cs := by
  refine ⟨by unfold maxLen; omega, fun _ => ⟨g, 0, rfl, heap_lt h.blk, fun j hj => ?_⟩⟩
  have hj2 : j < us.length := by rw [h.len]; exact hj
  have get : ∀ i (hi : i < 4) x, (cki4 cs[j] us[j])[i]? = some x → w.cell? ⟨g, j * 4 + i, none⟩ = some x := by
    intro i hi x hx
    rw [cell_of_row _ _ _ _ _ _ h.blk, List.getElem?_toArray, List.getElem?_append_left (by rw [ckis_len h.len]; omega), ckis_get h.len hj hj2 i hi]
    exact hx
  obtain ⟨gi, e1, e2, e3⟩ := h.each j us[j] cs[j] (List.getElem?_eq_getElem hj2) (List.getElem?_eq_getElem hj)
  refine ⟨?_, ?_, ?_, us[j], ?_, ?_⟩
  · have := get 0 (by decide) _ rfl
    rwa [Nat.add_zero, ← Nat.zero_add (j * 4)] at this
  · have := get 1 (by decide) _ rfl
    rwa [← Nat.zero_add (j * 4)] at this
  · have := get 2 (by decide) _ rfl
    rwa [← Nat.zero_add (j * 4)] at this
  · have := get 3 (by decide) _ rfl
    rwa [← Nat.zero_add (j * 4)] at this
  · rw [e1]
    exact (lent_sl (hr _ (List.getElem_mem hj)) e2).mono (Nat.zero_le _) (heap_lt e2)

theorem LC.cell {w : World} {base g : Nat} {us : List Value} {cs : List Cki} (h : LC w base g us cs) {j : Nat} (hj : j < cs.length) {c : Cki} (hc : cs[j] = c) :
    ∃ gi, w.heap[gi]? = some (.cells (c.d.map f8 ++ [Value.int .u8 91, Value.int .u8 92]).toArray 5 (0, 0)) ∧ w.cell? ⟨g, j * 4, none⟩ = some (.int .i64 c.f) ∧ w.cell? ⟨g, j * 4 + 1, none⟩ = some (.int .i64 c.t) ∧ w.cell? ⟨g, j * 4 + 2, none⟩ = some (.int .i64 c.n) ∧ w.cell? ⟨g, j * 4 + 3, none⟩ = some (.slice (some ⟨gi, 0, none⟩) c.d.length (c.d.length + 2)) := by
  subst hc
  have hj2 : j < us.length := by rw [h.len]; exact hj
  have get : ∀ i (hi : i < 4) x, (cki4 cs[j] us[j])[i]? = some x → w.cell? ⟨g, j * 4 + i, none⟩ = some x := by
    intro i hi x hx
    rw [cell_of_row _ _ _ _ _ _ h.blk, List.getElem?_toArray, List.getElem?_append_left (by rw [ckis_len h.len]; omega), ckis_get h.len hj hj2 i hi]
    exact hx
  obtain ⟨gi, e1, e2, _⟩ := h.each j us[j] cs[j] (List.getElem?_eq_getElem hj2) (List.getElem?_eq_getElem hj)
  exact ⟨gi, e2, get 0 (by decide) _ rfl, get 1 (by decide) _ rfl, get 2 (by decide) _ rfl, (get 3 (by decide) _ rfl).trans (by rw [e1])⟩

set_option maxHeartbeats 4000000 in
set_option maxRecDepth 100000 in
theorem lentCh_any (w : World) (ao : Option Addr) (cap : Nat) (l : List Cki) (h : Chs w.heap.size w ao cap l) (hn : l.length ≤ 1000000) :
    Calls Tryz.prog 5 #[.slice ao l.length cap] w fun e w' => ∃ us, e = .returned (.slice (some ⟨w.heap.size, 0, none⟩) l.length (l.length + 1)) ∧ LC w' w.heap.size w.heap.size us l ∧ Below w.heap.size w w' := by
  have H := Lib.hid h
  clear h
  obtain ⟨i1, hi1, hy1, hy2, hy3⟩ := info_parts infoCh4
  go_enter Tryz.func5, Tryz.ntmps5
  go_wp2_with (at_make; refine wpList_make_own _ rfl _ _ 23 rfl w.heap.size 26 i1 (.agg #[.int .i64 0, .int .i64 0, .int .i64 0, .slice none 0 0]) 4 Tryz.underlying23 hi1 hy1 hy2 .i64 .i64 _ (l.length + 1) rfl rfl (by push_cast; rfl) (by rw [hy3]; omega) (by unfold maxLen; omega) (Nat.le_refl _) ?_; intro w1 hown1 hgrow1; have hb1 : Below w.heap.size w w1 := (Below.refl _ _).grown hgrow1 (Nat.le_refl _) (by intro q hq; cases hq); have HO1 := Lib.hid hown1; have HB1 := Lib.hid hb1; clear hown1 hgrow1 hb1)
  go_loopw [3, 4] (fun x i wr => ∃ (k : Nat) (us : List Value), k ≤ l.length ∧ i = .int .i64 k ∧ x = .slice (some ⟨w.heap.size, 0, none⟩) k (l.length + 1) ∧ us.length = k ∧ wr.ownsRow w.heap.size 26 4 (.slice (some ⟨w.heap.size, 0, none⟩) k (l.length + 1)) k (ckis (l.take k) us) ∧
      (∀ (i : Nat) (u : Value) (c : Cki), us[i]? = some u → l[i]? = some c → LB wr (w.heap.size + 1) u c.d) ∧
      (∀ (i j : Nat) (u v : Value) (a b : Nat), us[i]? = some u → us[j]? = some v → u.ownBlock = some a → v.ownBlock = some b → i < j → a < b) ∧ Below w.heap.size w wr) (fun _ i _ => l.length - (intOf i).toNat)
  case atStart => exact ⟨0, [], Nat.zero_le _, rfl, rfl, rfl, HO1.out, fun i u c hu => by simp at hu, fun i j u v a b hu => by simp at hu, HB1.out⟩
  case round =>
    obtain ⟨k, us, hk, rfl, rfl, hus, hown, heach, hinc, hbel⟩ := hrel
    have HE := Lib.hid heach
    have HI := Lib.hid hinc
    have HO := Lib.hid hown
    have HVK := Lib.hid hus
    have hbs := hbel.size
    have hwr : w.heap.size < wr.heap.size := (hown.lt _ rfl).2
    have HBE := Lib.hid hbel
    clear heach hinc hown hus hbel
    by_cases hlt : k < l.length
    · obtain ⟨b, off, hao, hbh, hcs⟩ := (H.out.below HBE.out (Nat.le_refl _)).cells (by intro e; subst e; simp at hlt)
      subst hao
      obtain ⟨d0, d1, d2, u, d3, hsl⟩ := hcs k hlt
      obtain ⟨c, hc⟩ : ∃ c, l[k] = c := ⟨_, rfl⟩
      rw [hc] at d0 d1 d2 hsl
      have HSL := Lib.hid (hsl.below (drew_b wr) hbs)
      have HCC := Lib.hid hc
      have hcl := hsl.len
      obtain ⟨au, cu, rfl, _⟩ := hsl
      have i1' : (0 : Int) ≤ (k : Int) ∧ (k : Int) < (l.length : Int) := by omega
      have hbw : b < wr.heap.size := by omega
      clear hcs hc
      go_wp2
      go_region_held3 (fun w' => w'.cell? ⟨b, off + k * 4, none⟩ = some (.int .i64 c.f) ∧ w'.cell? ⟨b, off + k * 4 + 1, none⟩ = some (.int .i64 c.t) ∧ w'.cell? ⟨b, off + k * 4 + 2, none⟩ = some (.int .i64 c.n) ∧ w'.cell? ⟨b, off + k * 4 + 3, none⟩ = some (.slice au c.d.length cu)) (first | assumption | exact ⟨d0, d1, d2, d3⟩ | exact ⟨f0, f1, f2, f3⟩ | exact ⟨cell_al2 f0, cell_al2 f1, cell_al2 f2, cell_al2 f3⟩ | exact ⟨p0, p1, p2, p3⟩) (first
        | (refine step_append_fits rfl (.tmp 16) (.tmp 39) 23 rfl w.heap.size 26 i1 4 Tryz.underlying23 hi1 hy2 w.heap.size k (l.length + 1) (ckis (l.take k) us) rfl (HOW.out.alloc _) ⟨w2.heap.size, 0, none⟩ 1 1 [.int .i64 c.f, .int .i64 c.t, .int .i64 c.n, .slice (some ⟨g2, 0, none⟩) c.d.length (c.d.length + 2)] rfl rfl (news_alloc w2 [.int .i64 c.f, .int .i64 c.t, .int .i64 c.n, .slice (some ⟨g2, 0, none⟩) c.d.length (c.d.length + 2)] 26) (cki4_one (c := c) rfl) (by omega) ?_; intro w3 hown3 hgr3; have hbx : w3.heap[b]? = w2.heap[b]? := (hgr3.block b (by simp; omega) (fun e => by injection e with e; omega)).trans (Below.heap_alloc _ _ _ (by omega)); have p0 := (World.cell?_of_block (a := ⟨b, off + k * 4, none⟩) hbx).trans f0; have p1 := (World.cell?_of_block (a := ⟨b, off + k * 4 + 1, none⟩) hbx).trans f1; have p2 := (World.cell?_of_block (a := ⟨b, off + k * 4 + 2, none⟩) hbx).trans f2; have p3 := (World.cell?_of_block (a := ⟨b, off + k * 4 + 3, none⟩) hbx).trans f3; have HO3 := Lib.hid hown3; have HG3 := Lib.hid (grown_alloc hgr3); clear hown3 hgr3)
        | (go_at_call 20; refine (lent_any 0 w.heap.size wr.drew _ c.d HSL.out hbs).mono ?_; rintro e w2 ⟨g2, rfl, hg2, hblk2, hb2⟩; have hs2 : wr.heap.size ≤ w2.heap.size := hb2.size; have f0 := (hb2.cell (p := ⟨b, off + k * 4, none⟩) (show b < wr.heap.size by omega)).trans d0; have f1 := (hb2.cell (p := ⟨b, off + k * 4 + 1, none⟩) (show b < wr.heap.size by omega)).trans d1; have f2 := (hb2.cell (p := ⟨b, off + k * 4 + 2, none⟩) (show b < wr.heap.size by omega)).trans d2; have f3 := (hb2.cell (p := ⟨b, off + k * 4 + 3, none⟩) (show b < wr.heap.size by omega)).trans d3; have hg2' : wr.heap.size ≤ g2 := hg2; have HBK := Lib.hid hblk2; have HB2 := Lib.hid (show Below wr.heap.size wr w2 from (drew_b wr).trans hb2); have HOW := Lib.hid (own_of_same HO.out (fun q hq => ((drew_b wr).trans hb2).block q (HO.out.lt q hq).2)); clear hblk2 hb2 hg2))
      go_wp2
      go_roundw
      case rel =>
        have hl3 : (ckis (l.take (k + 1)) (us ++ [.slice (some ⟨g2, 0, none⟩) c.d.length (c.d.length + 2)])) = ckis (l.take k) us ++ [.int .i64 c.f, .int .i64 c.t, .int .i64 c.n, .slice (some ⟨g2, 0, none⟩) c.d.length (c.d.length + 2)] := by
          rw [List.take_succ_eq_append_getElem hlt, HCC.out, ckis_snoc (by rw [HVK.out, List.length_take]; omega)]
          rfl
        refine ⟨k + 1, us ++ [.slice (some ⟨g2, 0, none⟩) c.d.length (c.d.length + 2)], by omega, by push_cast; rfl, rfl, by rw [List.length_append, HVK.out]; rfl, by rw [hl3]; exact HO3.out, fun i u q hu hq => ?_, fun i j u v a b hu hv ha hb hij => ?_, (HBE.out.trans (HB2.out.mono hbs)).grown HG3.out (by omega) (fun q hq => by injection hq with hq; omega)⟩
        · rcases Nat.lt_trichotomy i k with hi | hi | hi
          · rw [List.getElem?_append_left (by rw [HVK.out]; exact hi)] at hu
            obtain ⟨gi, e1, e2, e3⟩ := HE.out i u q hu hq
            have h2 := (HB2.out.block gi (heap_lt e2)).trans e2
            exact ⟨gi, e1, (HG3.out.block gi (heap_lt h2) (fun e => by injection e with e; omega)).trans h2, e3⟩
          · subst hi
            rw [List.getElem?_append_right (by rw [HVK.out]; exact Nat.le_refl _), HVK.out, Nat.sub_self] at hu
            rw [List.getElem?_eq_getElem hlt, HCC.out] at hq
            simp at hu hq
            subst hu hq
            exact ⟨g2, rfl, (HG3.out.block g2 (heap_lt HBK.out) (fun e => by injection e with e; omega)).trans HBK.out, by omega⟩
          · rw [List.getElem?_eq_none (by rw [List.length_append, HVK.out]; simp; omega)] at hu; cases hu
        · have hj : j < k + 1 := by
            have := (List.getElem?_eq_some_iff.1 hv).1
            rw [List.length_append, HVK.out] at this
            exact this
          have hik : i < k := by omega
          rw [List.getElem?_append_left (by rw [HVK.out]; exact hik)] at hu
          rcases Nat.lt_or_ge j k with hjk | hjk
          · rw [List.getElem?_append_left (by rw [HVK.out]; exact hjk)] at hv
            exact HI.out i j u v a b hu hv ha hb hij
          · have : j = k := by omega
            subst this
            rw [List.getElem?_append_right (by rw [HVK.out]; exact Nat.le_refl _), HVK.out, Nat.sub_self] at hv
            simp at hv
            subst hv
            injection hb with hb
            have hb' : g2 = b := hb
            obtain ⟨gi, e1, e2, e3⟩ := HE.out i u _ hu (List.getElem?_eq_getElem (by omega))
            subst e1
            injection ha with ha
            have ha' : gi = a := ha
            have := heap_lt e2
            omega
      case measure => simp [intOf]; omega
    · obtain rfl : k = l.length := by omega
      rw [List.take_length] at HO
      go_wp2_with (at_builtin; refine wpList_append_fits _ rfl (.tmp 41) (.tmp 43) 23 rfl w.heap.size 26 i1 4 Tryz.underlying23 hi1 hy2 _ l.length (l.length + 1) (ckis l us) rfl (HO.out.alloc _) ⟨wr.heap.size, 0, none⟩ 1 1 [.int .i64 0, .int .i64 0, .int .i64 (-77), .slice none 0 0] rfl rfl (news_alloc wr [.int .i64 0, .int .i64 0, .int .i64 (-77), .slice none 0 0] 26) (by simp [Value.oneCell']) (by omega) ?_; intro w3 hown3 hgr3; have HO3 := Lib.hid hown3; have HG3 := Lib.hid hgr3; clear hown3 hgr3)
      go_ret
      have hgr := grown_alloc HG3.out
      obtain ⟨_, hfull⟩ := own_fulls (by decide) (by omega) HO3.out
      refine ⟨us, rfl, ⟨hfull, HVK.out, fun i u q hu hq => ?_, HI.out, Nat.le_refl _⟩, (HBE.out.alloc hbs _).grown HG3.out (by simp; omega) (fun q hq => by injection hq with hq; omega)⟩
      obtain ⟨gi, e1, e2, e3⟩ := HE.out i u q hu hq
      exact ⟨gi, e1, (hgr.block gi (heap_lt e2) (fun e => by injection e with e; omega)).trans e2, by omega⟩

set_option maxHeartbeats 4000000 in
set_option maxRecDepth 100000 in
theorem wholeCh_any (base g : Nat) (w : World) (ao' : Option Addr) (cap' : Nat) (us : List Value) (l : List Cki) (h : LC w base g us l) (hi : Nat) (h' : Chs hi w ao' cap' l) (hn : l.length ≤ 1000000) (hr : ∀ c ∈ l, c.d.length ≤ 140737488355328) :
    Calls Tryz.prog 9 #[.slice (some ⟨g, 0, none⟩) l.length (l.length + 1), .slice ao' l.length cap'] w fun e w' => e = .returned (.bool true) ∧ ∃ n, w' = w.drewN n := by
  have cN : w.cell? ⟨g, l.length * 4 + 2, none⟩ = some (.int .i64 (-77)) := by
    rw [cell_of_row _ _ _ _ _ _ h.blk, List.getElem?_toArray, List.getElem?_append_right (by rw [ckis_len h.len]; omega), ckis_len h.len, Nat.add_sub_cancel_left]; rfl
  have HC := Lib.hid (h.chs hn hr)
  have HH := Lib.hid h
  have HC' := Lib.hid h'
  have HRR := Lib.hid hr
  clear h h' hr
  have i0 : (0 : Int) ≤ (l.length : Int) ∧ (l.length : Int) < ((l.length + 1 : Nat) : Int) := by omega
  go_enter Tryz.func9, Tryz.ntmps9
  go_wp2
  go_loopw [6] (fun i wr => ∃ k n : Nat, k ≤ l.length ∧ i = .int .i64 k ∧ Hid (wr = w.drewN n)) (fun i _ => l.length - (intOf i).toNat)
  case atStart => exact ⟨0, 0, Nat.zero_le _, rfl, Lib.hid rfl⟩
  case round =>
    obtain ⟨k, n, hk, rfl, HW⟩ := hrel
    by_cases hlt : k < l.length
    · obtain ⟨b, off, hao, _, hcs⟩ := HC'.out.cells (by intro e; subst e; simp at hlt)
      subst hao
      obtain ⟨c, hc⟩ : ∃ c, l[k] = c := ⟨_, rfl⟩
      have key : ∀ p, wr.cell? p = w.cell? p := fun p => by rw [HW.out]; rfl
      obtain ⟨d0, d1, d2, u, d3, hsl⟩ := hcs k hlt
      obtain ⟨gi, hblk, e0, e1, e2, e3⟩ := HH.out.cell hlt hc
      have hcl := HRR.out l[k] (List.getElem_mem hlt)
      rw [hc] at d0 d1 d2 hsl hcl
      rw [← key] at d0 d1 d2 d3 e0 e1 e2 e3
      have i1 : (0 : Int) ≤ (k : Int) ∧ (k : Int) < (l.length : Int) := by omega
      have HSL := Lib.hid (show Sl 0 hi f8 wr u c.d from hsl.same (fun _ _ _ => by rw [HW.out]; rfl))
      have HBK := Lib.hid (show ∀ m : Nat, (wr.drewN m).heap[gi]? = some (.cells (c.d.map f8 ++ [Value.int .u8 91, Value.int .u8 92]).toArray 5 (0, 0)) from fun m => by
        show wr.heap[gi]? = _
        rw [HW.out]; exact hblk)
      have HSM := Lib.hid (show sameB c.d c.d = true by simp [sameB])
      clear key hcs hsl hblk hc
      go_wp2
      go_quiet ((go_at_call 27; exact Calls.quiet_of (whole_any 0 hi gi (wr.drewN _) u c.d c.d hcl (HBK.out _) (HSL.out.same (fun _ _ _ => rfl)))))
      rw [HSM.out]
      have HW2 : Hid (wr.drewN nq = w.drewN (n + nq)) := Lib.hid (by rw [HW.out, World.drewN_drewN])
      go_wp2
      go_roundw
      case rel => exact ⟨k + 1, _, by omega, by push_cast; rfl, HW2⟩
      case measure => simp [intOf]; omega
    · go_wp2
      go_ret
      exact ⟨rfl, _, HW.out⟩
end Go.Proofs.YtepjpdhmjchakaaGreatDoor
