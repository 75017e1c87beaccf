import Derived.Test.YtepjpdhmjchakaaGreatDoorQ13
import Derived.Sort.QuietIn
import Derived.Deep.AppendLies
/- Decode of any chunks. Condition: the library's table of trailing noughts (TabW). -/
namespace Go.Proofs.YtepjpdhmjchakaaGreatDoor
open Go.RowKit Go.Shelf
set_option linter.unusedVariables false
attribute [local go_sem] Oper.semAt_some

/-- An append within a fence that says where the new row lies. -/
theorem wpListIn_append_lies' {F : Fence} {n : Nat} {P : Program} (w : World) {ops : Array Oper} {rest : List Oper} {o : Oper} {a : Act} {Q : Exit → Act → World → Prop}
    (hg : o.guard = none) (s x : Operand) (t : TypeId) (hop : o.op = Op.call { callee := Callee.builtin Builtin.append, args := #[s, x], argTypes := #[t, t] })
    (base : Nat) (e : TypeId) (i : TypeInfo) (z : Value) (size bytes : Nat) (h1 : P.underlying t = some (.slice e)) (h2 : P.info? e = some i) (h3 : i.zero = some z) (h4 : i.size = size) (h5 : i.bytes = bytes) (h6 : z.cells.size = size) (h7 : 0 < size)
    (v : Value) (k : Nat) (xs : List Value) (hs : a.eval s = v) (hown : w.ownsRow base e size v k xs) (ad : Addr) (m c : Nat) (news : List Value) (hx : a.eval x = .slice (some ad) m c) (hn : news.length = m * size)
    (hc : ∀ j u, news[j]? = some u → w.cell? (ad.add j) = some u) (h1c : ∀ u ∈ news, u.oneCell' = true) (hm : 0 < m) (b1 : k + m ≤ maxLen) (b2 : (k + m) * bytes ≤ 140737488355328) (b3 : base ≤ w.heap.size)
    (hK : ∀ g cap w', w'.ownsRow base e size (.slice (some ⟨g, 0, none⟩) (k + m) cap) (k + m) (xs ++ news) → w.grownBy w' v.ownBlock → (v.ownBlock = some g ∨ g = w.heap.size) → wpListIn F n P ops Q rest (a.put o.dst (.slice (some ⟨g, 0, none⟩) (k + m) cap)) w') :
    wpListIn F n P ops Q (o :: rest) a w := by
  refine wpListIn_plain hg fun K hK' => ?_
  obtain ⟨g, cap, w', hrun, r1, r2, r3, _⟩ := run_append_lies (P := P) w t o.type base e i z size bytes h1 h2 h3 h4 h5 h6 h7 v k xs hown ad m c news hn hc h1c hm b1 b2 b3 _ rfl
  unfold Oper.wpIn
  refine ⟨?_, ?_⟩
  · simp [Oper.about, hop, resolve, Target.leads, Sem.run_pure]
  · rw [Oper.semAt_plain F _ _ (by rw [hop]; intro c hc'; cases hc')]
    simp [execOp, hop, resolve, invoke, builtin, hs, hx, hrun, Result.andThen]
    exact hK' _ _ (hK g cap w' r1 r2 r3)

/-- The marks of the loops that are over, the last one first. -/
def Mk (n0 : Nat) (w : World) : List Deferred → Nat → Prop
  | [], _ => True
  | d :: ds, B => ∃ D, d = { target := .collected D, args := #[] } ∧ n0 ≤ D ∧ D < B ∧ w.heap[D]? = some (.deferred (some [])) ∧ Mk n0 w ds D
theorem Mk.kept {n0 : Nat} {w w' : World} : ∀ {ds : List Deferred} {B : Nat}, Mk n0 w ds B → (∀ k o, k < B → w.heap[k]? = some o → o.isCells = false → w'.heap[k]? = some o) → Mk n0 w' ds B
  | [], _, _, _ => trivial
  | d :: ds, B, ⟨D, h1, h2, h3, h4, h5⟩, hk => ⟨D, h1, h2, h3, hk D _ h3 h4 rfl, Mk.kept h5 (fun k o hlt => hk k o (by omega))⟩
theorem Mk.mono {n0 : Nat} {w : World} : ∀ {ds : List Deferred} {B B' : Nat}, Mk n0 w ds B → B ≤ B' → Mk n0 w ds B'
  | [], _, _, _, _ => trivial
  | d :: ds, B, B', ⟨D, h1, h2, h3, h4, h5⟩, hb => ⟨D, h1, h2, by omega, h4, h5⟩
theorem Mk.leaves {F : Fence} {n : Nat} {P : Program} {fn : Func} {tmps : Array Value} {R : Ending → World → Prop} {n0 : Nat} : ∀ {ds : List Deferred} {w : World} {B : Nat}, Mk n0 w ds B → B ≤ w.heap.size →
    (∀ w', Below n0 w w' → (∀ (k : Nat) (cs : Array Value) (t : TypeId) (f : Nat × Nat), w.heap[k]? = some (Obj.cells cs t f) → w'.heap[k]? = some (Obj.cells cs t f)) → LeavesIn F n P fn tmps R [] .returning w') → LeavesInM F n P fn tmps R ds .returning w
  | [], w, _, _, _, h => h w (Below.refl _ _) (fun _ _ _ _ h => h)
  | d :: ds, w, B, ⟨D, h1, h2, h3, h4, h5⟩, hb, h => by
    have hg := grownBy_putObj' w D (.deferred none)
    have hlt := heap_lt h4
    have hb1 : Below n0 w (w.putObj D (.deferred none)) := (Below.refl n0 w).grown hg (by omega) (fun k e => by cases e; exact h2)
    subst h1
    refine ⟨by simp, .inl ⟨D, _, rfl, run_takeDeferred h4, ?_⟩⟩
    refine Mk.leaves (h5.kept (fun k o hk ho _ => (hg.block k (by omega) (fun e => by cases e; omega)).trans ho)) (by have := hg.size; omega) (fun w' hb2 hc2 => h w' (hb1.trans hb2) (fun k cs t f hk => hc2 k cs t f ?_))
    refine (hg.block k (heap_lt hk) (fun e => ?_)).trans hk
    cases e
    rw [hk] at h4
    cases h4

/-- The samples of the first chunks. -/
noncomputable def outs (l : List Cki) (k : Nat) : List Gz.Smp := ((l.take k).map fun c => (rdo c).getD []).flatten
/-- One of the first k chunks begins no later than the one ahead of it ends. -/
def Ob (l : List Cki) (k : Nat) : Prop := ∃ (i : Nat) (a b : Cki), i + 1 < k ∧ l[i]? = some a ∧ l[i + 1]? = some b ∧ b.f ≤ a.t
/-- At the head of Decode's loop. -/
def DcI (w : World) (l : List Cki) (k : Nat) (ord : Int) (ds : List Deferred) (wr : World) : Prop :=
  k ≤ l.length ∧ (∀ c ∈ l.take k, ∃ ls, rdo c = some ls) ∧ ((ord = 0 ∧ ¬ Ob l k) ∨ (ord = 100 ∧ Ob l k)) ∧ (outs l k).length ≤ 120 * k ∧
  (∃ v, wr.heap[w.heap.size]? = some (.cells #[v] 22 (0, 0)) ∧ wr.ownsRow w.heap.size 79 2 v (outs l k).length (smCs (outs l k))) ∧ Below w.heap.size w wr ∧ Mk w.heap.size wr ds wr.heap.size

theorem outs_succ {l : List Cki} {k : Nat} (hk : k < l.length) : outs l (k + 1) = outs l k ++ (rdo l[k]).getD [] := by
  unfold outs
  rw [List.take_succ_eq_append_getElem hk, List.map_append, List.flatten_append]
  simp only [List.map_cons, List.map_nil, List.flatten_cons, List.flatten_nil, List.append_nil]
theorem outs_all (l : List Cki) : outs l l.length = (l.map fun c => (rdo c).getD []).flatten := by
  unfold outs
  rw [List.take_length]
theorem ob_zero (l : List Cki) : ¬ Ob l 1 := fun ⟨i, a, b, h, _⟩ => by omega
theorem ob_yes {l : List Cki} {j : Nat} {x y : Cki} (hx : l[j + 1]? = some x) (hy : l[j]? = some y) (h : x.f ≤ y.t) : Ob l (j + 1 + 1) := ⟨j, y, x, by omega, hy, hx, h⟩
theorem ob_no {l : List Cki} {j : Nat} {x y : Cki} (hx : l[j + 1]? = some x) (hy : l[j]? = some y) (h : ¬ x.f ≤ y.t) : Ob l (j + 1 + 1) ↔ Ob l (j + 1) := by
  constructor
  · rintro ⟨i, a, b, h1, h2, h3, h4⟩
    by_cases e : i = j
    · subst e
      rw [hx] at h3
      rw [hy] at h2
      injection h3 with h3
      injection h2 with h2
      subst h2 h3
      exact absurd h4 h
    · exact ⟨i, a, b, by omega, h2, h3, h4⟩
  · rintro ⟨i, a, b, h1, h2⟩
    exact ⟨i, a, b, by omega, h2⟩
theorem ob_all (l : List Cki) : Ob l l.length ↔ ∃ (i : Nat) (a b : Cki), l[i]? = some a ∧ l[i + 1]? = some b ∧ b.f ≤ a.t := by
  constructor
  · rintro ⟨i, a, b, _, h2⟩
    exact ⟨i, a, b, h2⟩
  · rintro ⟨i, a, b, h2, h3, h4⟩
    exact ⟨i, a, b, (List.getElem?_eq_some_iff.1 h3).1, h2, h3, h4⟩
theorem dcd_bad {l : List Cki} (hok : ∀ c ∈ l, ∃ ls, rdo c = some ls) (h : Ob l l.length) : dcd l = ([], 100) := by
  unfold dcd
  rw [if_neg, if_pos ((ob_all l).1 h)]
  rintro ⟨c, hc, hn⟩
  obtain ⟨ls, hl⟩ := hok c hc
  rw [hn] at hl
  cases hl
theorem dcd_good {l : List Cki} (hok : ∀ c ∈ l, ∃ ls, rdo c = some ls) (h : ¬ Ob l l.length) : dcd l = (outs l l.length, 0) := by
  unfold dcd
  rw [if_neg, if_neg (fun e => h ((ob_all l).2 e)), outs_all]
  rintro ⟨c, hc, hn⟩
  obtain ⟨ls, hl⟩ := hok c hc
  rw [hn] at hl
  cases hl
/-- Between two rounds of the range. -/
def DcR (w W0 : World) (lo : Nat) (O : List Gz.Smp) (pre : List Gz.Smp) (W : World) : Prop :=
  (∃ v m, m = (O ++ pre).length ∧ W.heap[w.heap.size]? = some (.cells #[v] 22 (0, 0)) ∧ W.ownsRow w.heap.size 79 2 v m (smCs (O ++ pre)) ∧ ∀ k, v.ownBlock = some k → k < lo ∨ W0.heap.size ≤ k) ∧
  Below w.heap.size w W ∧ W0.heap.size ≤ W.heap.size ∧ (∀ k o, k < W0.heap.size → W0.heap[k]? = some o → o.isCells = false → W.heap[k]? = some o)
theorem DcR.own (w W0 : World) (lo : Nat) (O : List Gz.Smp) (hB : w.heap.size ≤ W0.heap.size) : OwnFrom W0.heap.size (DcR w W0 lo O) := by
  rintro pre X Y row ⟨⟨v, m, hm, h1, h2, h3⟩, h4, h5, h6⟩ hg hr
  refine ⟨⟨v, m, hm, own_key hg hr h1, h2.kept hg ?_, h3⟩, h4.grown hg h4.size (fun k hk => by have := (hr k hk).1; omega), Nat.le_trans h5 hg.size, fun k o hk ho hc => ?_⟩
  · rcases hvb : v.ownBlock with _ | k
    · exact .inl rfl
    · refine .inr (fun e => ?_)
      obtain ⟨cs, hk⟩ := own_block h2 k hvb
      obtain ⟨_, o, ho, hc⟩ := hr k e.symm
      rw [hk] at ho
      cases ho
      cases hc
  · refine (hg.block k (by omega) (fun e => ?_)).trans (h6 k o hk ho hc)
    have := (hr k e.symm).1
    omega
/-- What an append into the box leaves. -/
theorem DcR.put {w W0 W w1 : World} {lo g cap m : Nat} {O pre : List Gz.Smp} {x : Gz.Smp} {v : Value} {o : Obj} (hm : m = (O ++ pre).length) (hv : W.heap[w.heap.size]? = some (.cells #[v] 22 (0, 0))) (hrow : W.ownsRow w.heap.size 79 2 v m (smCs (O ++ pre)))
    (hlv : ∀ k, v.ownBlock = some k → k < lo ∨ W0.heap.size ≤ k) (hB : Below w.heap.size w W) (h0 : W0.heap.size ≤ W.heap.size) (hkp : ∀ k o, k < W0.heap.size → W0.heap[k]? = some o → o.isCells = false → W.heap[k]? = some o) (hlo : w.heap.size < lo)
    (hown : w1.ownsRow w.heap.size 79 2 (.slice (some ⟨g, 0, none⟩) (m + 1) cap) (m + 1) (smCs (O ++ pre) ++ [.int .i64 x.t, .int .u64 (x.v : Int)])) (hg : (W.alloc o).grownBy w1 v.ownBlock) (hat : v.ownBlock = some g ∨ g = (W.alloc o).heap.size) :
    w1.heap[w.heap.size]? = some (.cells #[v] 22 (0, 0)) ∧ KeepsFrom W0.heap.size W (w1.setCell ⟨w.heap.size, 0, none⟩ (.slice (some ⟨g, 0, none⟩) (m + 1) cap)) ∧ Same lo W0.heap.size W (w1.setCell ⟨w.heap.size, 0, none⟩ (.slice (some ⟨g, 0, none⟩) (m + 1) cap)) ∧
    DcR w W0 lo O (pre ++ [x]) (w1.setCell ⟨w.heap.size, 0, none⟩ (.slice (some ⟨g, 0, none⟩) (m + 1) cap)) := by
  have hlt : ∀ k, v.ownBlock = some k → w.heap.size ≤ k ∧ k < W.heap.size := fun k hk => hrow.lt k hk
  have hne : v.ownBlock ≠ some w.heap.size := own_block_ne2 hrow hv (by decide)
  have b1 : w1.heap[w.heap.size]? = some (.cells #[v] 22 (0, 0)) := (hg.block w.heap.size (by simp; have := heap_lt hv; omega) (fun e => hne e.symm)).trans ((Below.heap_alloc _ _ _ (heap_lt hv)).trans hv)
  have hgne : (Value.slice (some ⟨g, 0, none⟩) (m + 1) cap).ownBlock ≠ some w.heap.size := own_block_ne2 hown b1 (by decide)
  have hs1 := hg.size
  simp at hs1
  have hbw := hB.size
  have hkept : ∀ (k : Nat) (o' : Obj), W.heap[k]? = some o' → o'.isCells = false → w1.heap[k]? = some o' := fun k o' hk hc => by
    refine (hg.block k (by simp; have := heap_lt hk; omega) (fun e => ?_)).trans ((Below.heap_alloc _ _ _ (heap_lt hk)).trans hk)
    have := own_cells hrow e.symm hk
    rw [hc] at this
    cases this
  refine ⟨b1, ?_, fun k h1 h2 => ?_, ⟨_, m + 1, by simp [hm]; omega, by rw [heap_setCell_same _ _ _ _ _ _ b1]; rfl, ?_, fun k hk => ?_⟩, ?_, by simp; omega, fun k o' hk ho hc => ?_⟩
  · refine KeepsOthers.from (((KeepsOthers.alloc W o).trans (KeepsOthers.of_grownBy hg fun j o' ej hj => ?_)).trans (KeepsOthers.setCell _ _ _)) _
    exact own_cells (hrow.alloc o) ej hj
  · rw [heap_setCell_other _ _ _ _ (show k ≠ w.heap.size by omega)]
    exact (hg.block k (by simp; omega) (fun e => by have := hlv k e.symm; omega)).trans (Below.heap_alloc _ _ _ (by omega))
  · rw [← List.append_assoc, smCs_snoc]
    exact own_of_same hown (fun k hk => heap_setCell_other _ _ _ _ (show k ≠ w.heap.size from fun e => hgne (by rw [hk, e])))
  · injection hk with hk
    have hk2 : g = k := hk
    rcases hat with hat | hat
    · exact hlv k (by rw [hat, hk2])
    · right; rw [← hk2, hat]; simp; omega
  · exact ((hB.alloc hB.size o).grown hg (by simp; omega) (fun k hk => by have := hlt k hk; omega)).setCell (p := ⟨w.heap.size, 0, none⟩) (Nat.le_refl _) _
  · have hne2 : k ≠ w.heap.size := fun e => by
      subst e
      have h7 := hkp _ o' hk ho hc
      rw [hv] at h7
      injection h7 with h7
      subst h7
      cases hc
    rw [heap_setCell_other _ _ _ _ hne2]
    exact hkept k o' (hkp k o' hk ho hc) hc

set_option maxRecDepth 100000 in
set_option maxHeartbeats 4000000 in
theorem decode_any (w : World) (ao : Option Addr) (cap : Nat) (l : List Cki) (h : Chs w.heap.size w ao cap l) (hl : l.length ≤ 1000000) (hT : TabW w) :
    Calls Tryz.prog 7 #[.slice ao l.length cap] w fun e w' => ∃ v, e = .returned (.tuple #[v, .int .u16 (dcd l).2]) ∧ w'.ownsRow w.heap.size 79 2 v (dcd l).1.length (smCs (dcd l).1) ∧ Below w.heap.size w w' := by
  obtain ⟨i0, hi0', hz0, hz1, hz2⟩ := info_parts infoSm4
  have hlb : 1 < w.heap.size := block_lt_of_cell (hT 0 (by omega))
  refine (callsIn_wide (n := 3)).1 ?_
  refine callsIn_of_wp_marks Tryz.func7 rfl trivial ?_ rfl
  simp only [Tryz.ntmps7, List.size_toArray, List.length_cons, List.length_nil, Nat.reduceAdd, Nat.reduceSub, Array.replicate_succ, Array.replicate_zero, List.push_toArray, List.append_toArray, List.nil_append, List.cons_append]
  gi_wp2
  refine wpIn_loop (fun a' W => ∃ (k : Nat) (ord : Int) (ds : List Deferred) (u6 u7 u8 u12 u13 u14 u15 u16 u17 u18 u19 u20 u21 u22 u23 u24 u25 u26 u27 u28 u29 u30 u31 u32 u33 u34 u35 u36 u37 u38 u39 : Value), DcI w l k ord ds W ∧ a' = { tmps := #[.slice ao l.length cap, undef, .slice none 0 0, .int .u16 0, .pointer (some ⟨w.heap.size, 0, none⟩), .int .u16 ord, u6, u7, u8, .slice ao l.length cap, .int .i64 (l.length : Int), .int .i64 (k : Int), u12, u13, u14, u15, u16, u17, u18, u19, u20, u21, u22, u23, u24, u25, u26, u27, u28, u29, u30, u31, u32, u33, u34, u35, u36, u37, u38, u39, undef, undef, undef, undef], defers := ds }) (fun a' _ => l.length - (intOf (a'.tmps.getD 11 undef)).toNat) ?_ ?_
  · exact ⟨0, 0, [], _, _, _, _, _, _, _, _, _, _, _, _, _, _, _, _, _, _, _, _, _, _, _, _, _, _, _, _, _, _, _, ⟨Nat.zero_le _, by simp, .inl ⟨rfl, fun ⟨i, a, b, h1, _⟩ => by omega⟩, by simp [outs], ⟨_, heap_alloc_new _ _, World.ownsRow_nil _ _ _ _⟩, (Below.refl _ _).alloc (Nat.le_refl _) _, trivial⟩, rfl⟩
  · rintro _ wr ⟨k, ord, ds, u6, u7, u8, u12, u13, u14, u15, u16, u17, u18, u19, u20, u21, u22, u23, u24, u25, u26, u27, u28, u29, u30, u31, u32, u33, u34, u35, u36, u37, u38, u39, ⟨hk, hok, hord, hol, ⟨v, hv, hrow⟩, hbel, hmk⟩, rfl⟩
    have HORD := Lib.hid hord
    have HOK := Lib.hid hok
    have HMK := Lib.hid hmk
    have HROW := Lib.hid hrow
    have HV := Lib.hid hv
    have hsz := hbel.size
    have hll := hl
    clear hord hok hmk hrow hv
    by_cases hlt : k < l.length
    · obtain ⟨b, off, hao, hbh, hcs⟩ := (h.below hbel (Nat.le_refl _)).cells (by intro e; subst e; simp at hlt)
      subst hao
      have HCS := Lib.hid hcs
      obtain ⟨q0, q1, q2, u, q3, hsl⟩ := hcs k hlt
      have HSL := Lib.hid hsl
      have i1 : (0 : Int) ≤ (k : Int) ∧ (k : Int) < (l.length : Int) := by omega
      obtain ⟨x, hx⟩ : ∃ x, l[k] = x := ⟨_, rfl⟩
      rw [hx] at q0 q1 q2 HSL
      have HX := Lib.hid hx
      obtain ⟨au, cu, hu⟩ := hsl
      obtain ⟨hu, _⟩ := hu
      subst hu
      rw [hx] at q3 HSL
      clear hcs hx
      gi_wp2
      refine ⟨trivial, (callsIn_wide.2 (check_any _ x _ 0 w.heap.size (HSL.out.below (al_b wr _) hsz) (by simp; omega) ((hT.below hbel hlb).below (al_b wr _) (by omega)))).mono ?_⟩
      rintro e w1 ⟨⟨er, rfl, hcase⟩, hb1⟩
      have hx7 := (hb1.block wr.heap.size (by simp)).trans (heap_alloc_new wr (.cells #[.int .i64 x.f, .int .i64 x.t, .int .i64 x.n, .slice au x.d.length cu] 26))
      have hb1w : Below wr.heap.size wr w1 := (al_b wr _).trans (hb1.mono (by simp))
      have hs1 := hb1w.size
      obtain ⟨m0, m1, m2, m3, mz⟩ := box4 hx7
      have HX7 := Lib.hid hx7
      clear hx7
      rcases hcase with ⟨rfl, hls⟩ | ⟨rfl, hno⟩
      · have HLS := Lib.hid hls
        clear hls
        by_cases h0 : k = 0
        · subst h0
          gi_wp2
          gi_quiet (fail)
          gi_wp2
          generalize HW2 : World.drewN _ _ = w2 at *
          have hb12 : Below w1.heap.size w1 w2 := by rw [← HW2]; exact drewN_b _ _
          have hb2 : Below wr.heap.size wr w2 := hb1w.trans (hb12.mono hs1)
          have hs2 := hb2.size
          have h2w := hbel.trans (hb2.mono hsz)
          have hwl := heap_lt HV.out
          refine ⟨trivial, (callsIn_wide.2 (allm_any w2 x _ 0 w.heap.size (HSL.out.below hb2 hsz) (by omega) ((hT.below hbel hlb).below hb2 (by omega)))).mono ?_⟩
          rintro e W0 ⟨Bl, Bi, bb, ls, ao2, cap2, rfl, hl1, hl2, c1, c2, ho2, hll2, hf2, hc2, hb3⟩
          have hs3 := hb3.size
          have HGV := Lib.hid (show gv bb ls = (rdo x).getD [] by
            rcases hc2 with ⟨rfl, h⟩ | ⟨rfl, h⟩
            · rw [h]; rfl
            · rw [h]; rfl)
          have hgl : (gv bb ls).length ≤ 120 := by cases bb <;> simp [gv] <;> omega
          have hS2 := Smr.owns ho2
          have h3r : Below wr.heap.size wr W0 := hb2.trans (hb3.mono hs2)
          have h3w := hbel.trans (h3r.mono hsz)
          have hv3 := (h3r.block _ (heap_lt HV.out)).trans HV.out
          have hrow3 := own_of_same HROW.out (fun k hk => h3r.block k (HROW.out.lt k hk).2)
          have hlv : ∀ k, v.ownBlock = some k → k < w2.heap.size ∨ W0.heap.size ≤ k := fun k hk => .inl (by have := HROW.out.lt k hk; omega)
          have hW0l : w.heap.size ≤ W0.heap.size := by omega
          have HB12 := Lib.hid hb12
          have HOL := Lib.hid hol
          clear hc2 HW2 hb12 hol m0 m1 m2 m3 mz q0 q1 q2 q3
          gi_wp2
          refine wpIn_rangeFunc_ownH (α := Gz.Smp) rfl (by omega) (gf := 73) (lb := #[.pointer (some ⟨Bl, 0, none⟩), .pointer (some ⟨Bi, 0, none⟩)]) rfl trivial (enters_of Tryz.func73 (by kernel_rfl) rfl)
            (all_stops Fence.wide 2 trivial rfl (by omega) w2.heap.size W0.heap.size Bl Bi ao2 cap2 bb ls W0 hll2 c1 c2 ⟨hl2, heap_lt c2⟩ hS2 (Nat.le_refl _)) (fun h k => h.trans k) ?kb (Below.refl _ _) (fun _ => rfl)
            (fun pre W => DcR w W0 w2.heap.size (outs l (0)) pre W) (fun _ _ _ => False) (DcR.own w W0 _ _ hW0l) (fun _ _ _ _ _ hs _ _ => hs)
            ⟨⟨v, _, by rw [List.append_nil], hv3, by rw [List.append_nil]; exact hrow3, hlv⟩, h3w, Nat.le_refl _, fun _ _ _ h _ => h⟩
            (fun x a' W => ∃ (Bx : Nat) (s0 s1 s2 s3 s5 s6 s7 s9 s10 s11 s12 s13 s14 s15 s16 s17 s18 s19 s20 s21 s22 s23 s24 s25 s26 s27 s28 s29 s30 s31 s32 s33 s34 s35 s36 s37 s38 s39 s40 s41 s42 s43 : Value), W.heap[Bx]? = some (.cells #[.int .i64 x.t, .int .u64 (x.v : Int)] 79 (0, 0)) ∧ a' = { tmps := #[s0, s1, s2, s3, .pointer (some ⟨w.heap.size, 0, none⟩), s5, s6, s7, .pointer (some ⟨Bx, 0, none⟩), s9, s10, s11, s12, s13, s14, s15, s16, s17, s18, s19, s20, s21, s22, s23, s24, s25, s26, s27, s28, s29, s30, s31, s32, s33, s34, s35, s36, s37, s38, s39, s40, s41, s42, s43], defers := [] })
            ?hax ?assign ?body ?done ?stop
          case kb =>
            intro W l' o o' hl' h' _ _ k' h1' h2'
            exact (grownBy_putObj' W l' o').block k' (by have := heap_lt h'; omega) (fun e => by cases e; omega)
          case hax =>
            rintro x a' s A B row ⟨Bx, s0, s1, s2, s3, s5, s6, s7, s9, s10, s11, s12, s13, s14, s15, s16, s17, s18, s19, s20, s21, s22, s23, s24, s25, s26, s27, s28, s29, s30, s31, s32, s33, s34, s35, s36, s37, s38, s39, s40, s41, s42, s43, h1, h2⟩ hg hr
            exact ⟨Bx, _, _, _, _, _, _, _, _, _, _, _, _, _, _, _, _, _, _, _, _, _, _, _, _, _, _, _, _, _, _, _, _, _, _, _, _, _, _, _, _, _, _, own_key hg hr h1, h2⟩
          case assign =>
            rintro l' pre x W K hI hK
            gi_wp2
            exact hK _ _ ((KeepsOthers.alloc _ _).from _) (fun k h1 h2 => Below.heap_alloc _ _ _ (by have := hI.2.2.1; omega)) (DcR.own w W0 _ _ hW0l pre W _ none hI (World.grownBy_alloc _ _ _) (fun r e => by cases e)) ⟨W.heap.size, _, _, _, _, _, _, _, _, _, _, _, _, _, _, _, _, _, _, _, _, _, _, _, _, _, _, _, _, _, _, _, _, _, _, _, _, _, _, _, _, _, _, heap_alloc_new _ _, rfl⟩
          case body =>
            rintro l' pre x a' W hl' ⟨r, hr⟩ ⟨⟨v', m', hm', hv', hrow', hlv'⟩, hB', hs', hkp⟩ ⟨Bx, s0, s1, s2, s3, s5, s6, s7, s9, s10, s11, s12, s13, s14, s15, s16, s17, s18, s19, s20, s21, s22, s23, s24, s25, s26, s27, s28, s29, s30, s31, s32, s33, s34, s35, s36, s37, s38, s39, s40, s41, s42, s43, hBx, rfl⟩ hlt'
            obtain ⟨av, cv, rfl⟩ := own_slice hrow'
            have q4 : W.cell? ⟨w.heap.size, 0, none⟩ = some (.slice av m' cv) := (cell_of_row _ _ _ _ _ _ hv').trans rfl
            obtain ⟨p0, p1⟩ := box2 hBx
            have hol := HOL.out
            have hoz : m' ≤ 120 * (0) + 120 := by rw [hm', List.length_append]; omega
            have HM := Lib.hid hm'
            clear hm'
            gi_wp2_with (gi_at_builtin; refine wpListIn_append_lies' _ rfl _ _ 22 rfl w.heap.size 79 i0 (.agg #[.int .i64 0, .int .u64 0]) 2 16 Tryz.underlying22 hi0' hz0 hz1 hz2 rfl (by decide) _ _ _ rfl (hrow'.alloc _) ⟨W.heap.size, 0, none⟩ 1 1 [.int .i64 x.t, .int .u64 (x.v : Int)] rfl rfl (news_alloc W [.int .i64 x.t, .int .u64 (x.v : Int)] 79) (by simp [Value.oneCell']) (by decide) (by unfold maxLen; omega) (by omega) (by simp; omega) ?_; intro g' cap' w1' hown' hgrow hat; obtain ⟨hv1, hk2, hk3, hI⟩ := DcR.put (lo := w2.heap.size) HM.out hv' hrow' hlv' hB' hs' hkp (by omega) hown' hgrow hat; have hc1 : w1'.cell? ⟨w.heap.size, 0, none⟩ = some (.slice av m' cv) := (cell_of_row _ _ _ _ _ _ hv1).trans rfl; have hf1 : w1'.frozen? ⟨w.heap.size, 0, none⟩ = false := frozen_of_row _ _ _ _ _ hv1)
            exact ⟨hk2, hk3, hI⟩
          case done =>
            rintro D xs W hD rfl ⟨⟨v', m', hm', hv', hrow', hlv'⟩, hB', hs', hkp⟩ hK
            have hou : outs l (0 + 1) = outs l (0) ++ gv bb ls := by rw [outs_succ hlt, HX.out, HGV.out]
            have HOU := Lib.hid hou
            have hol := HOL.out
            have HM := Lib.hid hm'
            clear hou hm'
            gi_wp2
            refine ⟨⟨0 + 1, _, { target := .collected D, args := #[] } :: ds, _, _, _, _, _, _, _, _, _, _, _, _, _, _, _, _, _, _, _, _, _, _, _, _, _, _, _, _, _, _, _, ⟨by omega, ?_, (by rcases HORD.out with ⟨h, _⟩ | ⟨_, i, _, _, h, _⟩; exact .inl ⟨h, ob_zero l⟩; omega), by rw [HOU.out, List.length_append]; omega, ⟨v', hv', by rw [HOU.out, ← HM.out]; exact hrow'⟩, hB', ⟨D, rfl, by omega, heap_lt hK, hK, ?_⟩⟩, rfl⟩, by simp [intOf]; omega⟩
            · intro c hc
              rw [List.take_succ_eq_append_getElem hlt, List.mem_append] at hc
              rcases hc with hc | hc
              · exact HOK.out c hc
              · simp at hc; rw [hc, HX.out]; exact HLS.out
            · exact Mk.mono (Mk.kept (Mk.kept HMK.out (fun k o hk ho _ => (h3r.block k hk).trans ho)) (fun k o hk ho hc => hkp k o (by omega) ho hc)) (by omega)
          case stop =>
            rintro D c' pre W _ _ hx _
            exact hx.elim
        · obtain ⟨j, rfl⟩ : ∃ j, k = j + 1 := ⟨k - 1, by omega⟩
          obtain ⟨y, hy⟩ : ∃ y, l[j]'(by omega) = y := ⟨_, rfl⟩
          have r1 := (HCS.out j (by omega)).c1
          rw [hy] at r1
          have HY := Lib.hid hy
          clear hy
          have r1 := (hb1w.cell (p := ⟨b, off + j * 4 + 1, none⟩) (show b < wr.heap.size by omega)).trans r1
          have g0 : decide (0 < ((j + 1 : Nat) : Int)) = true := decide_eq_true (by omega)
          have e2 : IntKind.i64.wrap (j : Int) = (j : Int) := by rw [IntKind.wrap_i64]; omega
          have i2 : (0 : Int) ≤ (j : Int) ∧ (j : Int) < (l.length : Int) := by omega
          by_cases hle : x.f ≤ y.t
          · have g1 : decide (x.f ≤ y.t) = true := decide_eq_true hle
            have HLE := Lib.hid hle
            clear hle
            gi_wp2
            gi_quiet (fail)
            gi_wp2
            generalize HW2 : World.drewN _ _ = w2 at *
            have hb12 : Below w1.heap.size w1 w2 := by rw [← HW2]; exact drewN_b _ _
            have hb2 : Below wr.heap.size wr w2 := hb1w.trans (hb12.mono hs1)
            have hs2 := hb2.size
            have h2w := hbel.trans (hb2.mono hsz)
            have hwl := heap_lt HV.out
            refine ⟨trivial, (callsIn_wide.2 (allm_any w2 x _ 0 w.heap.size (HSL.out.below hb2 hsz) (by omega) ((hT.below hbel hlb).below hb2 (by omega)))).mono ?_⟩
            rintro e W0 ⟨Bl, Bi, bb, ls, ao2, cap2, rfl, hl1, hl2, c1, c2, ho2, hll2, hf2, hc2, hb3⟩
            have hs3 := hb3.size
            have HGV := Lib.hid (show gv bb ls = (rdo x).getD [] by
              rcases hc2 with ⟨rfl, h⟩ | ⟨rfl, h⟩
              · rw [h]; rfl
              · rw [h]; rfl)
            have hgl : (gv bb ls).length ≤ 120 := by cases bb <;> simp [gv] <;> omega
            have hS2 := Smr.owns ho2
            have h3r : Below wr.heap.size wr W0 := hb2.trans (hb3.mono hs2)
            have h3w := hbel.trans (h3r.mono hsz)
            have hv3 := (h3r.block _ (heap_lt HV.out)).trans HV.out
            have hrow3 := own_of_same HROW.out (fun k hk => h3r.block k (HROW.out.lt k hk).2)
            have hlv : ∀ k, v.ownBlock = some k → k < w2.heap.size ∨ W0.heap.size ≤ k := fun k hk => .inl (by have := HROW.out.lt k hk; omega)
            have hW0l : w.heap.size ≤ W0.heap.size := by omega
            have HB12 := Lib.hid hb12
            have HOL := Lib.hid hol
            clear hc2 HW2 hb12 hol m0 m1 m2 m3 mz q0 q1 q2 q3
            gi_wp2
            refine wpIn_rangeFunc_ownH (α := Gz.Smp) rfl (by omega) (gf := 73) (lb := #[.pointer (some ⟨Bl, 0, none⟩), .pointer (some ⟨Bi, 0, none⟩)]) rfl trivial (enters_of Tryz.func73 (by kernel_rfl) rfl)
              (all_stops Fence.wide 2 trivial rfl (by omega) w2.heap.size W0.heap.size Bl Bi ao2 cap2 bb ls W0 hll2 c1 c2 ⟨hl2, heap_lt c2⟩ hS2 (Nat.le_refl _)) (fun h k => h.trans k) ?kb (Below.refl _ _) (fun _ => rfl)
              (fun pre W => DcR w W0 w2.heap.size (outs l (j + 1)) pre W) (fun _ _ _ => False) (DcR.own w W0 _ _ hW0l) (fun _ _ _ _ _ hs _ _ => hs)
              ⟨⟨v, _, by rw [List.append_nil], hv3, by rw [List.append_nil]; exact hrow3, hlv⟩, h3w, Nat.le_refl _, fun _ _ _ h _ => h⟩
              (fun x a' W => ∃ (Bx : Nat) (s0 s1 s2 s3 s5 s6 s7 s9 s10 s11 s12 s13 s14 s15 s16 s17 s18 s19 s20 s21 s22 s23 s24 s25 s26 s27 s28 s29 s30 s31 s32 s33 s34 s35 s36 s37 s38 s39 s40 s41 s42 s43 : Value), W.heap[Bx]? = some (.cells #[.int .i64 x.t, .int .u64 (x.v : Int)] 79 (0, 0)) ∧ a' = { tmps := #[s0, s1, s2, s3, .pointer (some ⟨w.heap.size, 0, none⟩), s5, s6, s7, .pointer (some ⟨Bx, 0, none⟩), s9, s10, s11, s12, s13, s14, s15, s16, s17, s18, s19, s20, s21, s22, s23, s24, s25, s26, s27, s28, s29, s30, s31, s32, s33, s34, s35, s36, s37, s38, s39, s40, s41, s42, s43], defers := [] })
              ?hax ?assign ?body ?done ?stop
            case kb =>
              intro W l' o o' hl' h' _ _ k' h1' h2'
              exact (grownBy_putObj' W l' o').block k' (by have := heap_lt h'; omega) (fun e => by cases e; omega)
            case hax =>
              rintro x a' s A B row ⟨Bx, s0, s1, s2, s3, s5, s6, s7, s9, s10, s11, s12, s13, s14, s15, s16, s17, s18, s19, s20, s21, s22, s23, s24, s25, s26, s27, s28, s29, s30, s31, s32, s33, s34, s35, s36, s37, s38, s39, s40, s41, s42, s43, h1, h2⟩ hg hr
              exact ⟨Bx, _, _, _, _, _, _, _, _, _, _, _, _, _, _, _, _, _, _, _, _, _, _, _, _, _, _, _, _, _, _, _, _, _, _, _, _, _, _, _, _, _, _, own_key hg hr h1, h2⟩
            case assign =>
              rintro l' pre x W K hI hK
              gi_wp2
              exact hK _ _ ((KeepsOthers.alloc _ _).from _) (fun k h1 h2 => Below.heap_alloc _ _ _ (by have := hI.2.2.1; omega)) (DcR.own w W0 _ _ hW0l pre W _ none hI (World.grownBy_alloc _ _ _) (fun r e => by cases e)) ⟨W.heap.size, _, _, _, _, _, _, _, _, _, _, _, _, _, _, _, _, _, _, _, _, _, _, _, _, _, _, _, _, _, _, _, _, _, _, _, _, _, _, _, _, _, _, heap_alloc_new _ _, rfl⟩
            case body =>
              rintro l' pre x a' W hl' ⟨r, hr⟩ ⟨⟨v', m', hm', hv', hrow', hlv'⟩, hB', hs', hkp⟩ ⟨Bx, s0, s1, s2, s3, s5, s6, s7, s9, s10, s11, s12, s13, s14, s15, s16, s17, s18, s19, s20, s21, s22, s23, s24, s25, s26, s27, s28, s29, s30, s31, s32, s33, s34, s35, s36, s37, s38, s39, s40, s41, s42, s43, hBx, rfl⟩ hlt'
              obtain ⟨av, cv, rfl⟩ := own_slice hrow'
              have q4 : W.cell? ⟨w.heap.size, 0, none⟩ = some (.slice av m' cv) := (cell_of_row _ _ _ _ _ _ hv').trans rfl
              obtain ⟨p0, p1⟩ := box2 hBx
              have hol := HOL.out
              have hoz : m' ≤ 120 * (j + 1) + 120 := by rw [hm', List.length_append]; omega
              have HM := Lib.hid hm'
              clear hm'
              gi_wp2_with (gi_at_builtin; refine wpListIn_append_lies' _ rfl _ _ 22 rfl w.heap.size 79 i0 (.agg #[.int .i64 0, .int .u64 0]) 2 16 Tryz.underlying22 hi0' hz0 hz1 hz2 rfl (by decide) _ _ _ rfl (hrow'.alloc _) ⟨W.heap.size, 0, none⟩ 1 1 [.int .i64 x.t, .int .u64 (x.v : Int)] rfl rfl (news_alloc W [.int .i64 x.t, .int .u64 (x.v : Int)] 79) (by simp [Value.oneCell']) (by decide) (by unfold maxLen; omega) (by omega) (by simp; omega) ?_; intro g' cap' w1' hown' hgrow hat; obtain ⟨hv1, hk2, hk3, hI⟩ := DcR.put (lo := w2.heap.size) HM.out hv' hrow' hlv' hB' hs' hkp (by omega) hown' hgrow hat; have hc1 : w1'.cell? ⟨w.heap.size, 0, none⟩ = some (.slice av m' cv) := (cell_of_row _ _ _ _ _ _ hv1).trans rfl; have hf1 : w1'.frozen? ⟨w.heap.size, 0, none⟩ = false := frozen_of_row _ _ _ _ _ hv1)
              exact ⟨hk2, hk3, hI⟩
            case done =>
              rintro D xs W hD rfl ⟨⟨v', m', hm', hv', hrow', hlv'⟩, hB', hs', hkp⟩ hK
              have hou : outs l (j + 1 + 1) = outs l (j + 1) ++ gv bb ls := by rw [outs_succ hlt, HX.out, HGV.out]
              have HOU := Lib.hid hou
              have hol := HOL.out
              have HM := Lib.hid hm'
              clear hou hm'
              gi_wp2
              refine ⟨⟨j + 1 + 1, _, { target := .collected D, args := #[] } :: ds, _, _, _, _, _, _, _, _, _, _, _, _, _, _, _, _, _, _, _, _, _, _, _, _, _, _, _, _, _, _, _, ⟨by omega, ?_, (.inr ⟨rfl, ob_yes (by rw [← HX.out]; exact List.getElem?_eq_getElem hlt) (by rw [← HY.out]; exact List.getElem?_eq_getElem (by omega)) HLE.out⟩), by rw [HOU.out, List.length_append]; omega, ⟨v', hv', by rw [HOU.out, ← HM.out]; exact hrow'⟩, hB', ⟨D, rfl, by omega, heap_lt hK, hK, ?_⟩⟩, rfl⟩, by simp [intOf]; omega⟩
              · intro c hc
                rw [List.take_succ_eq_append_getElem hlt, List.mem_append] at hc
                rcases hc with hc | hc
                · exact HOK.out c hc
                · simp at hc; rw [hc, HX.out]; exact HLS.out
              · exact Mk.mono (Mk.kept (Mk.kept HMK.out (fun k o hk ho _ => (h3r.block k hk).trans ho)) (fun k o hk ho hc => hkp k o (by omega) ho hc)) (by omega)
            case stop =>
              rintro D c' pre W _ _ hx _
              exact hx.elim
          · have g1 : decide (x.f ≤ y.t) = false := decide_eq_false hle
            have HLE := Lib.hid hle
            clear hle
            gi_wp2
            gi_quiet (fail)
            gi_wp2
            generalize HW2 : World.drewN _ _ = w2 at *
            have hb12 : Below w1.heap.size w1 w2 := by rw [← HW2]; exact drewN_b _ _
            have hb2 : Below wr.heap.size wr w2 := hb1w.trans (hb12.mono hs1)
            have hs2 := hb2.size
            have h2w := hbel.trans (hb2.mono hsz)
            have hwl := heap_lt HV.out
            refine ⟨trivial, (callsIn_wide.2 (allm_any w2 x _ 0 w.heap.size (HSL.out.below hb2 hsz) (by omega) ((hT.below hbel hlb).below hb2 (by omega)))).mono ?_⟩
            rintro e W0 ⟨Bl, Bi, bb, ls, ao2, cap2, rfl, hl1, hl2, c1, c2, ho2, hll2, hf2, hc2, hb3⟩
            have hs3 := hb3.size
            have HGV := Lib.hid (show gv bb ls = (rdo x).getD [] by
              rcases hc2 with ⟨rfl, h⟩ | ⟨rfl, h⟩
              · rw [h]; rfl
              · rw [h]; rfl)
            have hgl : (gv bb ls).length ≤ 120 := by cases bb <;> simp [gv] <;> omega
            have hS2 := Smr.owns ho2
            have h3r : Below wr.heap.size wr W0 := hb2.trans (hb3.mono hs2)
            have h3w := hbel.trans (h3r.mono hsz)
            have hv3 := (h3r.block _ (heap_lt HV.out)).trans HV.out
            have hrow3 := own_of_same HROW.out (fun k hk => h3r.block k (HROW.out.lt k hk).2)
            have hlv : ∀ k, v.ownBlock = some k → k < w2.heap.size ∨ W0.heap.size ≤ k := fun k hk => .inl (by have := HROW.out.lt k hk; omega)
            have hW0l : w.heap.size ≤ W0.heap.size := by omega
            have HB12 := Lib.hid hb12
            have HOL := Lib.hid hol
            clear hc2 HW2 hb12 hol m0 m1 m2 m3 mz q0 q1 q2 q3
            gi_wp2
            refine wpIn_rangeFunc_ownH (α := Gz.Smp) rfl (by omega) (gf := 73) (lb := #[.pointer (some ⟨Bl, 0, none⟩), .pointer (some ⟨Bi, 0, none⟩)]) rfl trivial (enters_of Tryz.func73 (by kernel_rfl) rfl)
              (all_stops Fence.wide 2 trivial rfl (by omega) w2.heap.size W0.heap.size Bl Bi ao2 cap2 bb ls W0 hll2 c1 c2 ⟨hl2, heap_lt c2⟩ hS2 (Nat.le_refl _)) (fun h k => h.trans k) ?kb (Below.refl _ _) (fun _ => rfl)
              (fun pre W => DcR w W0 w2.heap.size (outs l (j + 1)) pre W) (fun _ _ _ => False) (DcR.own w W0 _ _ hW0l) (fun _ _ _ _ _ hs _ _ => hs)
              ⟨⟨v, _, by rw [List.append_nil], hv3, by rw [List.append_nil]; exact hrow3, hlv⟩, h3w, Nat.le_refl _, fun _ _ _ h _ => h⟩
              (fun x a' W => ∃ (Bx : Nat) (s0 s1 s2 s3 s5 s6 s7 s9 s10 s11 s12 s13 s14 s15 s16 s17 s18 s19 s20 s21 s22 s23 s24 s25 s26 s27 s28 s29 s30 s31 s32 s33 s34 s35 s36 s37 s38 s39 s40 s41 s42 s43 : Value), W.heap[Bx]? = some (.cells #[.int .i64 x.t, .int .u64 (x.v : Int)] 79 (0, 0)) ∧ a' = { tmps := #[s0, s1, s2, s3, .pointer (some ⟨w.heap.size, 0, none⟩), s5, s6, s7, .pointer (some ⟨Bx, 0, none⟩), s9, s10, s11, s12, s13, s14, s15, s16, s17, s18, s19, s20, s21, s22, s23, s24, s25, s26, s27, s28, s29, s30, s31, s32, s33, s34, s35, s36, s37, s38, s39, s40, s41, s42, s43], defers := [] })
              ?hax ?assign ?body ?done ?stop
            case kb =>
              intro W l' o o' hl' h' _ _ k' h1' h2'
              exact (grownBy_putObj' W l' o').block k' (by have := heap_lt h'; omega) (fun e => by cases e; omega)
            case hax =>
              rintro x a' s A B row ⟨Bx, s0, s1, s2, s3, s5, s6, s7, s9, s10, s11, s12, s13, s14, s15, s16, s17, s18, s19, s20, s21, s22, s23, s24, s25, s26, s27, s28, s29, s30, s31, s32, s33, s34, s35, s36, s37, s38, s39, s40, s41, s42, s43, h1, h2⟩ hg hr
              exact ⟨Bx, _, _, _, _, _, _, _, _, _, _, _, _, _, _, _, _, _, _, _, _, _, _, _, _, _, _, _, _, _, _, _, _, _, _, _, _, _, _, _, _, _, _, own_key hg hr h1, h2⟩
            case assign =>
              rintro l' pre x W K hI hK
              gi_wp2
              exact hK _ _ ((KeepsOthers.alloc _ _).from _) (fun k h1 h2 => Below.heap_alloc _ _ _ (by have := hI.2.2.1; omega)) (DcR.own w W0 _ _ hW0l pre W _ none hI (World.grownBy_alloc _ _ _) (fun r e => by cases e)) ⟨W.heap.size, _, _, _, _, _, _, _, _, _, _, _, _, _, _, _, _, _, _, _, _, _, _, _, _, _, _, _, _, _, _, _, _, _, _, _, _, _, _, _, _, _, _, heap_alloc_new _ _, rfl⟩
            case body =>
              rintro l' pre x a' W hl' ⟨r, hr⟩ ⟨⟨v', m', hm', hv', hrow', hlv'⟩, hB', hs', hkp⟩ ⟨Bx, s0, s1, s2, s3, s5, s6, s7, s9, s10, s11, s12, s13, s14, s15, s16, s17, s18, s19, s20, s21, s22, s23, s24, s25, s26, s27, s28, s29, s30, s31, s32, s33, s34, s35, s36, s37, s38, s39, s40, s41, s42, s43, hBx, rfl⟩ hlt'
              obtain ⟨av, cv, rfl⟩ := own_slice hrow'
              have q4 : W.cell? ⟨w.heap.size, 0, none⟩ = some (.slice av m' cv) := (cell_of_row _ _ _ _ _ _ hv').trans rfl
              obtain ⟨p0, p1⟩ := box2 hBx
              have hol := HOL.out
              have hoz : m' ≤ 120 * (j + 1) + 120 := by rw [hm', List.length_append]; omega
              have HM := Lib.hid hm'
              clear hm'
              gi_wp2_with (gi_at_builtin; refine wpListIn_append_lies' _ rfl _ _ 22 rfl w.heap.size 79 i0 (.agg #[.int .i64 0, .int .u64 0]) 2 16 Tryz.underlying22 hi0' hz0 hz1 hz2 rfl (by decide) _ _ _ rfl (hrow'.alloc _) ⟨W.heap.size, 0, none⟩ 1 1 [.int .i64 x.t, .int .u64 (x.v : Int)] rfl rfl (news_alloc W [.int .i64 x.t, .int .u64 (x.v : Int)] 79) (by simp [Value.oneCell']) (by decide) (by unfold maxLen; omega) (by omega) (by simp; omega) ?_; intro g' cap' w1' hown' hgrow hat; obtain ⟨hv1, hk2, hk3, hI⟩ := DcR.put (lo := w2.heap.size) HM.out hv' hrow' hlv' hB' hs' hkp (by omega) hown' hgrow hat; have hc1 : w1'.cell? ⟨w.heap.size, 0, none⟩ = some (.slice av m' cv) := (cell_of_row _ _ _ _ _ _ hv1).trans rfl; have hf1 : w1'.frozen? ⟨w.heap.size, 0, none⟩ = false := frozen_of_row _ _ _ _ _ hv1)
              exact ⟨hk2, hk3, hI⟩
            case done =>
              rintro D xs W hD rfl ⟨⟨v', m', hm', hv', hrow', hlv'⟩, hB', hs', hkp⟩ hK
              have hou : outs l (j + 1 + 1) = outs l (j + 1) ++ gv bb ls := by rw [outs_succ hlt, HX.out, HGV.out]
              have HOU := Lib.hid hou
              have hol := HOL.out
              have HM := Lib.hid hm'
              clear hou hm'
              gi_wp2
              refine ⟨⟨j + 1 + 1, _, { target := .collected D, args := #[] } :: ds, _, _, _, _, _, _, _, _, _, _, _, _, _, _, _, _, _, _, _, _, _, _, _, _, _, _, _, _, _, _, _, ⟨by omega, ?_, (by rw [ob_no (x := x) (y := y) (by rw [← HX.out]; exact List.getElem?_eq_getElem hlt) (by rw [← HY.out]; exact List.getElem?_eq_getElem (by omega)) (by have := HLE.out; omega)]; exact HORD.out), by rw [HOU.out, List.length_append]; omega, ⟨v', hv', by rw [HOU.out, ← HM.out]; exact hrow'⟩, hB', ⟨D, rfl, by omega, heap_lt hK, hK, ?_⟩⟩, rfl⟩, by simp [intOf]; omega⟩
              · intro c hc
                rw [List.take_succ_eq_append_getElem hlt, List.mem_append] at hc
                rcases hc with hc | hc
                · exact HOK.out c hc
                · simp at hc; rw [hc, HX.out]; exact HLS.out
              · exact Mk.mono (Mk.kept (Mk.kept HMK.out (fun k o hk ho _ => (h3r.block k hk).trans ho)) (fun k o hk ho hc => hkp k o (by omega) ho hc)) (by omega)
            case stop =>
              rintro D c' pre W _ _ hx _
              exact hx.elim
      · have hdc : dcd l = ([], 101) := by
          unfold dcd
          rw [if_pos ⟨x, by rw [← HX.out]; exact List.getElem_mem hlt, hno⟩]
        have HDC := Lib.hid hdc
        clear hdc hno
        gi_wp2
        refine Mk.leaves (HMK.out.kept (fun k o hk ho _ => (hb1w.block k hk).trans ho)) hs1 (fun w' hb' hc' => ?_)
        refine ⟨_, results_tmp2 rfl _ _ _, ?_⟩
        rw [HDC.out]
        exact ⟨_, rfl, World.ownsRow_nil _ _ _ _, (hbel.trans (hb1w.mono hsz)).trans hb'⟩
    · obtain rfl : k = l.length := by omega
      have HOL := Lib.hid hol
      rw [List.take_length] at HOK
      rcases HORD.out with ⟨rfl, hob⟩ | ⟨rfl, hob⟩
      · have HDC := Lib.hid (dcd_good HOK.out hob)
        obtain ⟨av, cv, rfl⟩ := own_slice HROW.out
        have q4 : wr.cell? ⟨w.heap.size, 0, none⟩ = some (.slice av (outs l l.length).length cv) := (cell_of_row _ _ _ _ _ _ HV.out).trans rfl
        clear hob hol
        gi_wp2
        refine Mk.leaves HMK.out (Nat.le_refl _) (fun w' hb' hc' => ?_)
        refine ⟨_, results_tmp2 rfl _ _ _, ?_⟩
        rw [HDC.out]
        exact ⟨_, rfl, own_of_same HROW.out (fun k hk => by obtain ⟨cs, hcs⟩ := own_block HROW.out k hk; rw [hcs]; exact hc' _ _ _ _ hcs), hbel.trans hb'⟩
      · have HDC := Lib.hid (dcd_bad HOK.out hob)
        clear hob hol
        gi_wp2
        refine Mk.leaves HMK.out (Nat.le_refl _) (fun w' hb' hc' => ?_)
        refine ⟨_, results_tmp2 rfl _ _ _, ?_⟩
        rw [HDC.out]
        exact ⟨_, rfl, World.ownsRow_nil _ _ _ _, hbel.trans hb'⟩
end Go.Proofs.YtepjpdhmjchakaaGreatDoor
