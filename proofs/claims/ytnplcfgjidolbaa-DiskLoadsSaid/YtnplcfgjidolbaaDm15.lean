/- The reference's disk: New, Load. -/
import Derived.Test.YtnplcfgjidolbaaDm14
import Derived.Deep.RegionLaw
section
namespace Go.Proofs.Ytnplcfgjidolbaa
open Go.RowKit

/-- A sector is laid behind the others. -/
theorem RD.snoc {W w3 : World} {base B av av' : Nat} {lv : Value} {d : Dsk} (hr : RD W base B av lv (.slice none 0 0) d) (hcs : d.cs = []) {vs : List Value} (hvl : vs.length = d.ls.length) (hvs : ∀ (i : Nat) (u : Value) (s : List UInt8), vs[i]? = some u → d.ls[i]? = some s → Rb W base av u s)
    {lv' u : Value} {s : List UInt8} (hs : s.length = 256) (hrow : w3.ownsRow base 22 1 lv' (d.ls.length + 1) (vs ++ [u])) (hu : w3.ownsRow base 5 1 u 256 (s.map f8))
    (hk : ∀ k, k < W.heap.size → some k ≠ lv.ownBlock → w3.heap[k]? = W.heap[k]?) (hav : w3.heap.size ≤ av') :
    RD (w3.setCell ⟨B, 0, none⟩ lv') base B av' lv' (.slice none 0 0) { d with ls := d.ls ++ [s] } := by
  obtain ⟨vs0, h1, _⟩ := hr.las
  have hB3 : w3.heap[B]? = some (.cells (rdTop lv (.slice none 0 0) d) 176 (0, 0)) := (hk B (heap_lt' hr.top) hr.ne.1.symm).trans hr.top
  have hoth : ∀ k, k ≠ B → (w3.setCell ⟨B, 0, none⟩ lv').heap[k]? = w3.heap[k]? := fun k hk => heap_setCell_other _ _ _ _ hk
  have keep : ∀ {e : TypeId} {sz : Nat} {v : Value} {n : Nat} {xs : List Value}, w3.ownsRow base e sz v n xs → e ≠ 176 → (w3.setCell ⟨B, 0, none⟩ lv').ownsRow base e sz v n xs := fun hv e1 =>
    own_of_same hv (fun k hb => hoth k (fun e => own_not hv hB3 e1 (by rw [hb, e])))
  have key : ∀ {v : Value} {t : List UInt8}, w3.ownsRow base 5 1 v t.length (t.map f8) → Rb (w3.setCell ⟨B, 0, none⟩ lv') base av' v t := fun hv => ⟨keep hv (by decide), fun e => by have := (hv.lt _ e).2; omega⟩
  refine ⟨by rw [heap_setCell_same _ _ _ _ _ _ hB3]; rfl, ⟨vs ++ [u], by simp only [List.length_append, List.length_singleton]; exact keep hrow (by decide), fun i x t hx ht => ?_⟩, ⟨[], by rw [hcs]; rfl, by rw [hcs]; exact World.ownsRow_nil _ _ _ _, fun i x c hx => by simp at hx⟩, ⟨fun t ht => ?_, fun c hc => by rw [hcs] at hc; simp at hc⟩, hr.lo⟩
  · dsimp only at ht
    by_cases hi : i < d.ls.length
    · rw [List.getElem?_append_left hi] at ht
      rw [List.getElem?_append_left (by omega)] at hx
      have q := (hvs i x t hx ht).1
      exact key (own_of_same q (fun k hb => hk k (q.lt k hb).2 (fun e => by
        obtain ⟨c1, q1⟩ := own_block q k hb
        obtain ⟨c2, q2⟩ := own_block h1 k e.symm
        rw [q1] at q2
        injection q2 with q2
        injection q2 with _ q2
        cases q2)))
    · have : i < (d.ls ++ [s]).length := (List.getElem?_eq_some_iff.1 ht).1
      simp at this
      obtain rfl : i = d.ls.length := by omega
      rw [List.getElem?_append_right (Nat.le_refl _)] at ht
      rw [← hvl, List.getElem?_append_right (Nat.le_refl _)] at hx
      simp at ht hx
      subst ht hx
      exact key (by rw [hs]; exact hu)
  · rcases List.mem_append.1 ht with h6 | h6
    · exact hr.ok.1 t h6
    · simp at h6
      subst h6
      exact hs

theorem las_step {wr w2 w3 : World} {base B : Nat} {lv : Value} {d : Dsk} (hr : RD wr base B wr.heap.size lv (.slice none 0 0) d) (hcs : d.cs = []) {vs : List Value} (hrv : wr.ownsRow base 22 1 lv d.ls.length vs) (hvs : ∀ (i : Nat) (u : Value) (s : List UInt8), vs[i]? = some u → d.ls[i]? = some s → Rb wr base wr.heap.size u s)
    {lv' u : Value} {s : List UInt8} (hs : s.length = 256) (hbw : Below wr.heap.size wr w2) (hu : w2.ownsRow wr.heap.size 5 1 u 256 (s.map f8)) (hg3 : w2.grownBy w3 lv.ownBlock) (ho3 : w3.ownsRow base 22 1 lv' (d.ls.length + 1) (vs ++ [u])) :
    RD (w3.setCell ⟨B, 0, none⟩ lv') base B (w3.setCell ⟨B, 0, none⟩ lv').heap.size lv' (.slice none 0 0) { d with ls := d.ls ++ [s] } ∧ ∀ w, Below base w wr → Below base w (w3.setCell ⟨B, 0, none⟩ lv') := by
  have hBl := heap_lt' hr.top
  have s1 := hbw.size
  have s2 := hg3.size
  have hlo := hr.lo
  have hu3 : w3.ownsRow base 5 1 u 256 (s.map f8) := own_low (own_of_same hu (fun k hk => hg3.block k (hu.lt k hk).2 (fun e => by have := (hu.lt k hk).1; have := (hrv.lt k e.symm).2; omega))) (show base ≤ wr.heap.size by omega)
  have hk : ∀ k, k < wr.heap.size → some k ≠ lv.ownBlock → w3.heap[k]? = wr.heap[k]? := fun k hk hne => (hg3.block k (by omega) hne).trans (hbw.block k hk)
  refine ⟨hr.snoc hcs (by have := hrv.1; omega) hvs hs ho3 hu3 hk (by simp), fun w hb => ?_⟩
  have h1 : Below base wr w3 := ⟨hg3.os.trans hbw.os, hg3.tape.trans hbw.tape, hg3.output.trans hbw.output, by omega, fun k hkb => hk k (by omega) (fun e => by have := (hrv.lt k e.symm).1; omega)⟩
  exact (hb.trans h1).setCell hlo _

set_option maxHeartbeats 1000000 in
set_option maxRecDepth 100000 in
theorem rnew_bad (w : World) (n : Int) (h : n < 1 ∨ 16384 < n) :
    Calls Try.prog 42 #[.int .i64 n] w fun e w' => e = .returned (.tuple #[.pointer none, .int .u16 50]) ∧ w = w' := by
  by_cases h1 : n < 1
  · have g1 : decide (n < 1) = true := decide_eq_true h1
    go_enter Try.func42, Try.ntmps42
    go_wp2
    go_ret2
    exact ⟨rfl, rfl⟩
  · have g1 : decide (n < 1) = false := decide_eq_false h1
    have g2 : decide (16384 < n) = true := decide_eq_true (by omega)
    go_enter Try.func42, Try.ntmps42
    go_wp2
    go_ret2
    exact ⟨rfl, rfl⟩

/-- A disk of noughts that is just begun. -/
theorem rd_start (w : World) : RD (w.alloc (.cells #[.slice none 0 0, .slice none 0 0, .bool false, .int .i64 (-1), .int .i64 0, .int .i64 0, .int .i64 0] 176)) w.heap.size w.heap.size (w.alloc (.cells #[.slice none 0 0, .slice none 0 0, .bool false, .int .i64 (-1), .int .i64 0, .int .i64 0, .int .i64 0] 176)).heap.size (.slice none 0 0) (.slice none 0 0) (newDsk 0) :=
  ⟨heap_alloc_new _ _, ⟨[], World.ownsRow_nil _ _ _ _, fun i u s hu => by simp at hu⟩, ⟨[], rfl, World.ownsRow_nil _ _ _ _, fun i u c hu => by simp at hu⟩, newDsk_ok 0, Nat.le_refl _⟩

theorem made_one' (n : Nat) : (madeCells (Value.int .u8 0).cells (n * 1)).toList = List.replicate n (.int .u8 0) := by
  apply List.ext_getElem
  · simp [madeCells]
  · intro i h1 h2
    simp [madeCells, Value.cells, Nat.mod_one]
/-- make([]byte, 256). -/
theorem make256 : ∃ zc : Array Value, zc = ((List.replicate 256 (0 : UInt8)).map f8).toArray ∧ ∀ W : World, (Instr.makeSlice 22 (.int .i64 256) (.int .i64 256)).run Try.prog W = .ok (.slice (some ⟨W.heap.size, 0, none⟩) 256 256) (W.alloc (.cells zc 5)) := by
  obtain ⟨i0, hi0, hz0, hz1, hz2⟩ := info_parts info5
  refine ⟨_, rfl, fun W => ?_⟩
  have e : (madeCells (Value.int .u8 0).cells ((256 : Int).toNat * i0.size)) = ((List.replicate 256 (0 : UInt8)).map f8).toArray := by
    apply Array.ext'
    rw [hz1, show (256 : Int).toNat * 1 = 256 from rfl, List.map_replicate]
    have := made_one' 256
    rw [Nat.mul_one] at this
    exact this
  rw [run_make W 22 5 i0 (.int .u8 0) Try.underlying22 hi0 hz0 .i64 .i64 256 256 (by decide) (by decide) (by rw [hz2]; decide) (by decide)]
  rw [e]
  rfl

set_option maxHeartbeats 2000000 in
set_option maxRecDepth 100000 in
theorem rnew_any (w : World) (n : Nat) (h1 : 1 ≤ n) (h2 : n ≤ 16384) :
    Calls Try.prog 42 #[.int .i64 (n : Int)] w fun e w' => ∃ B lv, e = .returned (.tuple #[.pointer (some ⟨B, 0, none⟩), .int .u16 0]) ∧ RD w' w.heap.size B w'.heap.size lv (.slice none 0 0) (newDsk n) ∧ Below w.heap.size w w' := by
  have g1 : decide ((n : Int) < 1) = false := decide_eq_false (by omega)
  have g2 : decide (16384 < (n : Int)) = false := decide_eq_false (by omega)
  obtain ⟨i1, hi1, hy0, hy1, hy2⟩ := info_parts info22
  obtain ⟨zc, hzc, hmk⟩ := make256
  have HZC := Lib.hid hzc
  clear hzc
  go_enter Try.func42, Try.ntmps42
  go_wp2
  have HS := Lib.hid (rd_start w)
  go_loopw [5] (fun i wr => ∃ (k : Nat) (lv : Value), k ≤ n ∧ i = .int .i64 k ∧ RD wr w.heap.size w.heap.size wr.heap.size lv (.slice none 0 0) (newDsk k) ∧ Below w.heap.size w wr) (fun i _ => n - (intOf i).toNat)
  case atStart => exact ⟨0, _, Nat.zero_le _, rfl, HS.out, (Below.refl _ _).alloc (Nat.le_refl _) _⟩
  case round =>
    obtain ⟨k, lv, hk, rfl, hr, hbel⟩ := hrel
    have HR := Lib.hid hr
    have HBL := Lib.hid hbel
    have hbs := hbel.size
    obtain ⟨c0, -, -, -, -, -, -, fz⟩ := rd_cells hr.top
    obtain ⟨vs, u1, u2⟩ := hr.las
    have U1 := Lib.hid u1
    have U2 := Lib.hid u2
    clear hr hbel u1 u2
    by_cases hlt : k < n
    · have HUB := Lib.hid (show ∀ W, Below wr.heap.size wr W → W.ownsRow w.heap.size 22 1 lv k vs from fun W hW => by
        have q := U1.out
        have e : (newDsk k).ls.length = k := by unfold newDsk; simp
        rw [e] at q
        exact own_of_same q (fun i hi => hW.block i (q.lt i hi).2))
      have hwl : w.heap.size < wr.heap.size := heap_lt' HR.out.top
      have hnb := Lib.hid HR.out.ne.1
      have HBW := Lib.hid (show Below wr.heap.size wr ((wr.alloc (.cells zc 5)).alloc (.cells #[.slice (some ⟨wr.heap.size, 0, none⟩) 256 256] 22)).drew from (((Below.refl _ _).alloc (Nat.le_refl _) _).alloc (by simp) _).trans ((drew_b _).mono (by simp; omega)))
      have HN := Lib.hid (show ∀ (j : Nat) (u : Value), [Value.slice (some ⟨wr.heap.size, 0, none⟩) 256 256][j]? = some u → ((wr.alloc (.cells zc 5)).alloc (.cells #[.slice (some ⟨wr.heap.size, 0, none⟩) 256 256] 22)).drew.cell? ((⟨wr.heap.size + 1, 0, none⟩ : Addr).add j) = some u from fun j u hu => by
        have := news_alloc (wr.alloc (.cells zc 5)) [.slice (some ⟨wr.heap.size, 0, none⟩) 256 256] 22 j u hu
        rw [show (wr.alloc (.cells zc 5)).heap.size = wr.heap.size + 1 by simp] at this
        exact this)
      go_wp2
      go_region_law ((refine step_append_lies _ rfl (.tmp 23) (.tmp 25) 43 rfl w.heap.size 22 i1 (.slice none 0 0) 1 24 und43 hi1 hy0 hy1 hy2 rfl (by decide) lv k vs rfl (HUB.out _ (HBW.out)) ⟨wr.heap.size + 1, 0, none⟩ 1 1 [.slice (some ⟨wr.heap.size, 0, none⟩) 256 256] rfl rfl HN.out (by intro u hu; simp at hu; subst hu; rfl) (by decide) (by unfold maxLen; omega) (by omega) (by simp; omega) _ rfl ?_; intro g cap w3 hown3 hgr3 hat3 hlt3; have HO3 := Lib.hid hown3; have HG3 := Lib.hid hgr3; have z3 : w3.cell? ⟨w.heap.size, 0, none⟩ = some lv := (World.cell?_of_block (a := ⟨w.heap.size, 0, none⟩) ((hgr3.block w.heap.size (by simp; omega) (fun e => hnb.out e.symm)).trans (HBW.out.block w.heap.size hwl))).trans c0; have z4 : w3.frozen? ⟨w.heap.size, 0, none⟩ = false := (World.frozen?_of_block (a := ⟨w.heap.size, 0, none⟩) ((hgr3.block w.heap.size (by simp; omega) (fun e => hnb.out e.symm)).trans (HBW.out.block w.heap.size hwl))).trans (fz 0); clear hown3 hgr3 hat3 hlt3))
      all_goals go_wp2
      all_goals
        have e1 : (newDsk k).ls.length = k := by unfold newDsk; simp
        have q1 := U1.out
        have hl256 : (List.replicate 256 (0 : UInt8)).length = 256 := List.length_replicate
        obtain ⟨f1, f2⟩ := las_step (s := List.replicate 256 0) HR.out rfl q1 U2.out hl256 HBW.out (u := .slice (some ⟨wr.heap.size, 0, none⟩) 256 256) ⟨by simp, .inr ⟨wr.heap.size, 256, zc, rfl, Nat.le_refl _, (Below.heap_alloc _ _ _ (by simp)).trans (heap_alloc_new _ _), Nat.le_refl _, by decide, by rw [HZC.out]; simp, by rw [HZC.out]; simp⟩⟩ HG3.out (by rw [e1]; exact HO3.out)
        refine ⟨⟨k + 1, .slice (some ⟨g, 0, none⟩) (k + 1) cap, by omega, by push_cast; rfl, ?_, f2 w HBL.out⟩, by simp [intOf]; omega⟩
        have e2 : newDsk (k + 1) = { newDsk k with ls := (newDsk k).ls ++ [List.replicate 256 0] } := by unfold newDsk; simp [List.replicate_succ']
        rw [e2]
        exact f1
    · obtain rfl : k = n := by omega
      go_wp2
      go_ret2
      exact ⟨_, _, rfl, HR.out, HBL.out⟩

/-- A text's sectors. -/
def sects (l : List UInt8) (n : Nat) : List (List UInt8) := (List.range n).map fun i => (l.drop (i * 256)).take 256
theorem sects_succ (l : List UInt8) (n : Nat) : sects l (n + 1) = sects l n ++ [(l.drop (n * 256)).take 256] := by unfold sects; rw [List.range_succ, List.map_append]; rfl
theorem sects_len (l : List UInt8) (n : Nat) : (sects l n).length = n := by simp [sects]
theorem sects_each (l : List UInt8) (n : Nat) (h : n * 256 ≤ l.length) : ∀ s ∈ sects l n, s.length = 256 := by
  intro s hs
  obtain ⟨i, hi, rfl⟩ := List.mem_map.1 hs
  have := List.mem_range.1 hi
  have : (i + 1) * 256 ≤ n * 256 := Nat.mul_le_mul_right _ (by omega)
  simp
  omega
theorem sects_flat (l : List UInt8) : ∀ n, n * 256 ≤ l.length → (sects l n).flatten = l.take (n * 256) := by
  intro n
  induction n with
  | zero => intro _; rfl
  | succ n ih =>
    intro h
    rw [sects_succ, List.flatten_append, ih (Nat.le_trans (Nat.mul_le_mul_right _ (Nat.le_succ n)) h)]
    simp only [List.flatten_cons, List.flatten_nil, List.append_nil]
    rw [Nat.succ_mul, List.take_add]
/-- A disk that has a text. -/
def loaded (l : List UInt8) (n : Nat) : Dsk := { newDsk 0 with ls := sects l n }

set_option maxHeartbeats 2000000 in
set_option maxRecDepth 100000 in
theorem rload_any (w : World) (bb off cap n N : Nat) (l : List UInt8) (hv : SlC 0 w.heap.size f8 w (some ⟨bb, off, none⟩) cap l) (h0 : 0 < n) (hN : l.length = N) (hn : N = n * 256) (hl : n ≤ 16384) :
    Calls Try.prog 47 #[.slice (some ⟨bb, off, none⟩) N cap] w fun e w' => ∃ B lv, e = .returned (.tuple #[.pointer (some ⟨B, 0, none⟩), .int .u16 0]) ∧ RD w' w.heap.size B w'.heap.size lv (.slice none 0 0) (loaded l n) ∧ Below w.heap.size w w' := by
  have hcap : N ≤ cap := hN ▸ hv.le
  have g0 : ((N : Int) == 0) = false := by simp; omega
  have g1 : ((N : Int) % 256 != 0) = false := by simp; omega
  have g2 : decide (4194304 < (N : Int)) = false := decide_eq_false (by omega)
  obtain ⟨i0, hi0, hz0, hz1, hz2⟩ := info_parts info5
  obtain ⟨i1, hi1, hy0, hy1, hy2⟩ := info_parts info22
  have HV := Lib.hid hv
  have HLN := Lib.hid hN
  have HNN := Lib.hid hn
  have hN0 : 0 < N := by omega
  clear hv hn hN
  go_enter Try.func47, Try.ntmps47
  go_wp2
  have HS := Lib.hid (rd_start w)
  go_loopw [5] (fun i wr => ∃ (k m : Nat) (lv : Value), k ≤ n ∧ m = k * 256 ∧ i = .int .i64 m ∧ RD wr w.heap.size w.heap.size wr.heap.size lv (.slice none 0 0) (loaded l k) ∧ Below w.heap.size w wr) (fun i _ => N - (intOf i).toNat)
  case atStart => exact ⟨0, 0, _, Nat.zero_le _, rfl, rfl, HS.out, (Below.refl _ _).alloc (Nat.le_refl _) _⟩
  case round =>
    obtain ⟨k, m, lv, hk, hm, rfl, hr, hbel⟩ := hrel
    have HR := Lib.hid hr
    have HBL := Lib.hid hbel
    have hbs := hbel.size
    obtain ⟨c0, -, -, -, -, -, -, fz⟩ := rd_cells hr.top
    obtain ⟨vs, u1, u2⟩ := hr.las
    have U1 := Lib.hid u1
    have U2 := Lib.hid u2
    have HN := Lib.hid (HV.out.below hbel (Nat.le_refl _))
    clear hr hbel u1 u2
    by_cases hlt : k < n
    · have hm2 : m + 256 ≤ N := by have := HNN.out; have : (k + 1) * 256 ≤ n * 256 := Nat.mul_le_mul_right _ hlt; omega
      have i1' : (0 : Int) ≤ (m : Int) ∧ (m : Int) ≤ (m : Int) + 256 ∧ (m : Int) + 256 ≤ (cap : Int) := by omega
      have hwl : w.heap.size < wr.heap.size := heap_lt' HR.out.top
      have hnb := Lib.hid HR.out.ne.1
      have HM := Lib.hid hm
      obtain ⟨M, hM⟩ : ∃ M : Nat, M = m + 256 := ⟨_, rfl⟩
      have hw1 : IntKind.i64.wrap ((m : Int) + 256) = (M : Int) := by rw [IntKind.wrap_i64]; omega
      have hw2 : (0 : Int) ≤ (M : Int) ∧ (M : Int) ≤ (cap : Int) := by omega
      have hw3 : m ≤ M := by omega
      have hw4 : ¬ cap = m := by omega
      have hw5 : M - m = 256 := by omega
      obtain ⟨sc, hsc⟩ : ∃ sc, sc = (l.drop m).take 256 := ⟨_, rfl⟩
      have hscl : sc.length = 256 := by rw [hsc]; have := HLN.out; simp; omega
      have HSC := Lib.hid hsc
      have HSL := Lib.hid hscl
      have HCELL := Lib.hid (show ∀ (W : World), Below wr.heap.size wr W → ∀ (j : Nat) (u : Value), (sc.map f8)[j]? = some u → W.cell? ((⟨bb, off + m, none⟩ : Addr).add j) = some u from fun W hW j u hu => by
        obtain ⟨b2, o2, e2, _, h3, h4⟩ := HN.out.cells (by intro e; have := HLN.out; rw [e] at this; simp at this; omega)
        injection e2 with e2
        injection e2 with e3 e4
        subst e3 e4
        have hj : j < 256 := by have := (List.getElem?_eq_some_iff.1 hu).1; rw [List.length_map, hscl] at this; exact this
        have h5 := h4 (m + j) (by have := HLN.out; omega)
        have h6 : W.cell? ⟨bb, off + m + j, none⟩ = some (f8 (l[m + j]'(by have := HLN.out; omega))) := by
          rw [Nat.add_assoc]
          exact (World.cell?_of_block (a := ⟨bb, off + (m + j), none⟩) (hW.block bb (by omega))).trans h5
        rw [Addr.add_lit, h6, ← hu, List.getElem?_map, hsc, List.getElem?_take, if_pos hj, List.getElem?_drop, List.getElem?_eq_getElem (by have := HLN.out; omega)]
        rfl)
      clear hm hM hsc hscl
      have HUB := Lib.hid (show ∀ W, Below wr.heap.size wr W → W.ownsRow w.heap.size 22 1 lv k vs from fun W hW => by
        have q := U1.out
        have e : (loaded l k).ls.length = k := by unfold loaded; exact sects_len l k
        rw [e] at q
        exact own_of_same q (fun i hi => hW.block i (q.lt i hi).2))
      go_wp2
      have sT : True := True.intro
      refine wp_region_held_drew (S := (fun _ => True)) (by kernel_rfl) sT (fun hHeld => ?_)
      refine wpAnyH_take (i := 0) (oi := ⟨some 29, _, _, _, _, _⟩) (v := (.pointer (some ⟨w.heap.size, 0, none⟩))) rfl (by kernel_rfl) (by kernel_rfl) (by kernel_rfl) (fun _ _ _ h => h) (Or.inl ⟨by rfl, ?_⟩) (by assumption) ?_
      · intro w' hSw
        go_simp
      try simp only [Act.put, List.setIfInBounds_toArray, List.set_cons_zero, List.set_cons_succ]
      refine wpAnyH_take (i := 1) (oi := ⟨some 30, _, _, _, _, _⟩) (v := (.pointer (some ⟨w.heap.size, 0, none⟩))) rfl (by kernel_rfl) (by kernel_rfl) (by kernel_rfl) (fun _ _ _ h => h) (Or.inl ⟨by rfl, ?_⟩) (by assumption) ?_
      · intro w' hSw
        go_simp
      try simp only [Act.put, List.setIfInBounds_toArray, List.set_cons_zero, List.set_cons_succ]
      refine wpAnyH_take (i := 2) (oi := ⟨some 31, _, _, _, _, _⟩) (v := (.pointer (some ⟨w.heap.size, 0, none⟩))) rfl (by kernel_rfl) (by kernel_rfl) (by kernel_rfl) (fun _ _ _ h => h) (Or.inl ⟨by rfl, ?_⟩) (by assumption) ?_
      · intro w' hSw
        go_simp
      try simp only [Act.put, List.setIfInBounds_toArray, List.set_cons_zero, List.set_cons_succ]
      refine wpAnyH_take (i := 3) (oi := ⟨some 32, _, _, _, _, _⟩) (v := (.pointer (some ⟨w.heap.size, 0, none⟩))) rfl (by kernel_rfl) (by kernel_rfl) (by kernel_rfl) (fun _ _ _ h => h) (Or.inl ⟨by rfl, ?_⟩) (by assumption) ?_
      · intro w' hSw
        go_simp
      try simp only [Act.put, List.setIfInBounds_toArray, List.set_cons_zero, List.set_cons_succ]
      refine wpAnyH_take (i := 5) (oi := ⟨some 34, _, _, _, _, _⟩) (v := (.slice none 0 0)) rfl (by kernel_rfl) (by kernel_rfl) (by kernel_rfl) (fun _ _ _ h => h) (Or.inl ⟨by rfl, ?_⟩) (by assumption) ?_
      · intro w' hSw
        go_simp
      try simp only [Act.put, List.setIfInBounds_toArray, List.set_cons_zero, List.set_cons_succ]
      refine wpAnyH_take (i := 6) (oi := ⟨some 35, _, _, _, _, _⟩) (v := (.slice (some ⟨bb, off, none⟩) N cap)) rfl (by kernel_rfl) (by kernel_rfl) (by kernel_rfl) (fun _ _ _ h => h) (Or.inl ⟨by rfl, ?_⟩) (by assumption) ?_
      · intro w' hSw
        go_simp
      try simp only [Act.put, List.setIfInBounds_toArray, List.set_cons_zero, List.set_cons_succ]
      refine wpAnyH_take (i := 7) (oi := ⟨some 36, _, _, _, _, _⟩) (v := (.int .i64 (m : Int))) rfl (by kernel_rfl) (by kernel_rfl) (by kernel_rfl) (fun _ _ _ h => h) (Or.inl ⟨by rfl, ?_⟩) (by assumption) ?_
      · intro w' hSw
        go_simp
      try simp only [Act.put, List.setIfInBounds_toArray, List.set_cons_zero, List.set_cons_succ]
      refine wpAnyH_take (i := 8) (oi := ⟨some 37, _, _, _, _, _⟩) (v := (.int .i64 (m : Int))) rfl (by kernel_rfl) (by kernel_rfl) (by kernel_rfl) (fun _ _ _ h => h) (Or.inl ⟨by rfl, ?_⟩) (by assumption) ?_
      · intro w' hSw
        go_simp
      try simp only [Act.put, List.setIfInBounds_toArray, List.set_cons_zero, List.set_cons_succ]
      refine wpAnyH_take (i := 9) (oi := ⟨some 38, _, _, _, _, _⟩) (v := (.int .i64 (M : Int))) rfl (by kernel_rfl) (by kernel_rfl) (by kernel_rfl) (fun _ _ _ h => h) (Or.inl ⟨by rfl, ?_⟩) (by assumption) ?_
      · intro w' hSw
        go_simp
      try simp only [Act.put, List.setIfInBounds_toArray, List.set_cons_zero, List.set_cons_succ]
      refine wpAnyH_take (i := 10) (oi := ⟨some 39, _, _, _, _, _⟩) (v := (.slice (some ⟨bb, off + m, none⟩) 256 (cap - m))) rfl (by kernel_rfl) (by kernel_rfl) (by kernel_rfl) (fun _ _ _ h => h) (Or.inl ⟨by rfl, ?_⟩) (by assumption) ?_
      · intro w' hSw
        go_simp
      try simp only [Act.put, List.setIfInBounds_toArray, List.set_cons_zero, List.set_cons_succ]
      refine wpAnyH_ready (rs := [4, 11]) (by kernel_rfl) (by simp) ?_
      refine AllReadyH.cons (o := ⟨some 33, _, _, _, _, _⟩) rfl (fun K hK => ?_) (AllReadyH.cons (o := ⟨some 40, _, _, _, _, _⟩) rfl (fun K hK => ?_) AllReadyH.nil)
      · go_simp
        refine hK.out _ _ sT (fun _ => ?_)
        clear hK K
        try simp only [Act.put, List.setIfInBounds_toArray, List.set_cons_zero, List.set_cons_succ]
        refine wpAnyH_ready (rs := [11]) (by kernel_rfl) (by simp) ?_
        refine AllReadyH.cons (o := ⟨some 40, _, _, _, _, _⟩) rfl (fun K hK => ?_) AllReadyH.nil
        refine step_append_lies _ rfl (.tmp 34) (.tmp 39) 22 rfl wr.heap.size 5 i0 (.int .u8 0) 1 1 Try.underlying22 hi0 hz0 hz1 hz2 rfl (by decide) (.slice none 0 0) 0 [] rfl (World.ownsRow_nil _ _ _ _) ⟨bb, off + m, none⟩ 256 (cap - m) (sc.map f8) rfl (by rw [List.length_map, HSL.out]) (fun j u hu => HCELL.out _ (drew_b wr) j u hu) (f8_one _) (by decide) (by decide) (by decide) (Nat.le_refl _) wr.heap.size rfl ?_
        intro g1 cap1 w2 hown1 hgrow1 hat1 hlt1
        have HO1 := Lib.hid hown1
        have hb2 : Below wr.heap.size wr w2 := (drew_b wr).grown hgrow1 (Nat.le_refl _) (fun q hq => by cases hq)
        have HB2 := Lib.hid hb2
        have hs2 := hb2.size
        have z1 : w2.cell? ⟨w.heap.size, 0, none⟩ = some lv := (World.cell?_of_block (a := ⟨w.heap.size, 0, none⟩) (hb2.block w.heap.size hwl)).trans c0
        have z5 := cell_alloc (o := .cells #[.slice (some ⟨g1, 0, none⟩) 256 cap1] 22) z1
        clear hown1 hgrow1 hat1 hlt1 hb2
        refine hK.out _ _ sT (fun _ => ?_)
        clear hK K
        try simp only [Act.put, List.setIfInBounds_toArray, List.set_cons_zero, List.set_cons_succ]
        refine wpAnyH_ready (rs := [12]) (by kernel_rfl) (by simp) ?_
        refine AllReadyH.cons (o := ⟨some 41, _, _, _, _, _⟩) rfl (fun K hK => ?_) AllReadyH.nil
        go_simp
        refine hK.out _ _ sT (fun _ => ?_)
        clear hK K
        try simp only [Act.put, List.setIfInBounds_toArray, List.set_cons_zero, List.set_cons_succ]
        refine wpAnyH_ready (rs := [13]) (by kernel_rfl) (by simp) ?_
        refine AllReadyH.cons (o := ⟨some 42, _, _, _, _, _⟩) rfl (fun K hK => ?_) AllReadyH.nil
        refine step_append_lies _ rfl (.tmp 33) (.tmp 41) 43 rfl w.heap.size 22 i1 (.slice none 0 0) 1 24 und43 hi1 hy0 hy1 hy2 rfl (by decide) lv k vs rfl (HUB.out _ (HB2.out.alloc hs2 _)) ⟨w2.heap.size, 0, none⟩ 1 1 [.slice (some ⟨g1, 0, none⟩) 256 cap1] rfl rfl (news_alloc w2 [.slice (some ⟨g1, 0, none⟩) 256 cap1] 22) (by intro u hu; simp at hu; subst hu; rfl) (by decide) (by unfold maxLen; omega) (by omega) (by simp; omega) _ rfl ?_
        intro g cap3 w3 hown3 hgr3 hat3 hlt3
        have HO3 := Lib.hid hown3
        have HG3 := Lib.hid hgr3
        have hz3 := (hgr3.block w.heap.size (by simp; omega) (fun e => hnb.out e.symm)).trans ((HB2.out.alloc hs2 (.cells #[.slice (some ⟨g1, 0, none⟩) 256 cap1] 22)).block w.heap.size hwl)
        have z3 : w3.cell? ⟨w.heap.size, 0, none⟩ = some lv := (World.cell?_of_block (a := ⟨w.heap.size, 0, none⟩) hz3).trans c0
        have z4 : w3.frozen? ⟨w.heap.size, 0, none⟩ = false := (World.frozen?_of_block (a := ⟨w.heap.size, 0, none⟩) hz3).trans (fz 0)
        clear hown3 hgr3 hat3 hlt3 hz3
        refine hK.out _ _ sT (fun _ => ?_)
        clear hK K
        try simp only [Act.put, List.setIfInBounds_toArray, List.set_cons_zero, List.set_cons_succ]
        refine wpAnyH_take (i := 14) (oi := ⟨some 43, _, _, _, _, _⟩) (v := (.pointer (some ⟨w.heap.size, 0, none⟩))) rfl (by kernel_rfl) (by kernel_rfl) (by kernel_rfl) (fun _ _ _ h => h) (Or.inl ⟨by rfl, ?_⟩) (by assumption) ?_
        · intro w' hSw
          go_simp
        try simp only [Act.put, List.setIfInBounds_toArray, List.set_cons_zero, List.set_cons_succ]
        refine wpAnyH_take (i := 15) (oi := ⟨some 44, _, _, _, _, _⟩) (v := (.pointer (some ⟨w.heap.size, 0, none⟩))) rfl (by kernel_rfl) (by kernel_rfl) (by kernel_rfl) (fun _ _ _ h => h) (Or.inl ⟨by rfl, ?_⟩) (by assumption) ?_
        · intro w' hSw
          go_simp
        try simp only [Act.put, List.setIfInBounds_toArray, List.set_cons_zero, List.set_cons_succ]
        refine wpAnyH_ready (rs := [16]) (by kernel_rfl) (by simp) ?_
        refine AllReadyH.cons (o := ⟨none, _, _, _, _, _⟩) rfl (fun K hK => ?_) AllReadyH.nil
        go_simp
        refine hK.out _ _ sT (fun _ => ?_)
        clear hK K
        try simp only [Act.put, List.setIfInBounds_toArray, List.set_cons_zero, List.set_cons_succ]
        refine wpAnyH_done (by kernel_rfl) ?_ _
        go_wp2
        obtain ⟨f1, f2⟩ := las_step (s := sc) HR.out rfl U1.out U2.out HSL.out HB2.out (u := .slice (some ⟨g1, 0, none⟩) 256 cap1) (by have h := HO1.out; rw [HSC.out]; rw [HSC.out] at h; simpa using h) (grown_alloc' HG3.out) (by have e1 : (loaded l k).ls.length = k := sects_len l k; rw [e1]; exact HO3.out)
        refine ⟨⟨k + 1, M, .slice (some ⟨g, 0, none⟩) (k + 1) cap3, by omega, by have := HM.out; omega, by first | rfl | (congr 1; omega), ?_, f2 w HBL.out⟩, by simp [intOf]; omega⟩
        have e2 : loaded l (k + 1) = { loaded l k with ls := (loaded l k).ls ++ [sc] } := by unfold loaded; rw [sects_succ, HSC.out, HM.out]
        rw [e2]
        exact f1
      · refine step_append_lies _ rfl (.tmp 34) (.tmp 39) 22 rfl wr.heap.size 5 i0 (.int .u8 0) 1 1 Try.underlying22 hi0 hz0 hz1 hz2 rfl (by decide) (.slice none 0 0) 0 [] rfl (World.ownsRow_nil _ _ _ _) ⟨bb, off + m, none⟩ 256 (cap - m) (sc.map f8) rfl (by rw [List.length_map, HSL.out]) (fun j u hu => HCELL.out _ (drew_b wr) j u hu) (f8_one _) (by decide) (by decide) (by decide) (Nat.le_refl _) wr.heap.size rfl ?_
        intro g1 cap1 w2 hown1 hgrow1 hat1 hlt1
        have HO1 := Lib.hid hown1
        have hb2 : Below wr.heap.size wr w2 := (drew_b wr).grown hgrow1 (Nat.le_refl _) (fun q hq => by cases hq)
        have HB2 := Lib.hid hb2
        have hs2 := hb2.size
        have z1 : w2.cell? ⟨w.heap.size, 0, none⟩ = some lv := (World.cell?_of_block (a := ⟨w.heap.size, 0, none⟩) (hb2.block w.heap.size hwl)).trans c0
        have z5 := cell_alloc (o := .cells #[.slice (some ⟨g1, 0, none⟩) 256 cap1] 22) z1
        clear hown1 hgrow1 hat1 hlt1 hb2
        refine hK.out _ _ sT (fun _ => ?_)
        clear hK K
        try simp only [Act.put, List.setIfInBounds_toArray, List.set_cons_zero, List.set_cons_succ]
        refine wpAnyH_ready (rs := [4, 12]) (by kernel_rfl) (by simp) ?_
        refine AllReadyH.cons (o := ⟨some 33, _, _, _, _, _⟩) rfl (fun K hK => ?_) (AllReadyH.cons (o := ⟨some 41, _, _, _, _, _⟩) rfl (fun K hK => ?_) AllReadyH.nil)
        · go_simp
          refine hK.out _ _ sT (fun _ => ?_)
          clear hK K
          try simp only [Act.put, List.setIfInBounds_toArray, List.set_cons_zero, List.set_cons_succ]
          refine wpAnyH_ready (rs := [12]) (by kernel_rfl) (by simp) ?_
          refine AllReadyH.cons (o := ⟨some 41, _, _, _, _, _⟩) rfl (fun K hK => ?_) AllReadyH.nil
          go_simp
          refine hK.out _ _ sT (fun _ => ?_)
          clear hK K
          try simp only [Act.put, List.setIfInBounds_toArray, List.set_cons_zero, List.set_cons_succ]
          refine wpAnyH_ready (rs := [13]) (by kernel_rfl) (by simp) ?_
          refine AllReadyH.cons (o := ⟨some 42, _, _, _, _, _⟩) rfl (fun K hK => ?_) AllReadyH.nil
          refine step_append_lies _ rfl (.tmp 33) (.tmp 41) 43 rfl w.heap.size 22 i1 (.slice none 0 0) 1 24 und43 hi1 hy0 hy1 hy2 rfl (by decide) lv k vs rfl (HUB.out _ (HB2.out.alloc hs2 _)) ⟨w2.heap.size, 0, none⟩ 1 1 [.slice (some ⟨g1, 0, none⟩) 256 cap1] rfl rfl (news_alloc w2 [.slice (some ⟨g1, 0, none⟩) 256 cap1] 22) (by intro u hu; simp at hu; subst hu; rfl) (by decide) (by unfold maxLen; omega) (by omega) (by simp; omega) _ rfl ?_
          intro g cap3 w3 hown3 hgr3 hat3 hlt3
          have HO3 := Lib.hid hown3
          have HG3 := Lib.hid hgr3
          have hz3 := (hgr3.block w.heap.size (by simp; omega) (fun e => hnb.out e.symm)).trans ((HB2.out.alloc hs2 (.cells #[.slice (some ⟨g1, 0, none⟩) 256 cap1] 22)).block w.heap.size hwl)
          have z3 : w3.cell? ⟨w.heap.size, 0, none⟩ = some lv := (World.cell?_of_block (a := ⟨w.heap.size, 0, none⟩) hz3).trans c0
          have z4 : w3.frozen? ⟨w.heap.size, 0, none⟩ = false := (World.frozen?_of_block (a := ⟨w.heap.size, 0, none⟩) hz3).trans (fz 0)
          clear hown3 hgr3 hat3 hlt3 hz3
          refine hK.out _ _ sT (fun _ => ?_)
          clear hK K
          try simp only [Act.put, List.setIfInBounds_toArray, List.set_cons_zero, List.set_cons_succ]
          refine wpAnyH_take (i := 14) (oi := ⟨some 43, _, _, _, _, _⟩) (v := (.pointer (some ⟨w.heap.size, 0, none⟩))) rfl (by kernel_rfl) (by kernel_rfl) (by kernel_rfl) (fun _ _ _ h => h) (Or.inl ⟨by rfl, ?_⟩) (by assumption) ?_
          · intro w' hSw
            go_simp
          try simp only [Act.put, List.setIfInBounds_toArray, List.set_cons_zero, List.set_cons_succ]
          refine wpAnyH_take (i := 15) (oi := ⟨some 44, _, _, _, _, _⟩) (v := (.pointer (some ⟨w.heap.size, 0, none⟩))) rfl (by kernel_rfl) (by kernel_rfl) (by kernel_rfl) (fun _ _ _ h => h) (Or.inl ⟨by rfl, ?_⟩) (by assumption) ?_
          · intro w' hSw
            go_simp
          try simp only [Act.put, List.setIfInBounds_toArray, List.set_cons_zero, List.set_cons_succ]
          refine wpAnyH_ready (rs := [16]) (by kernel_rfl) (by simp) ?_
          refine AllReadyH.cons (o := ⟨none, _, _, _, _, _⟩) rfl (fun K hK => ?_) AllReadyH.nil
          go_simp
          refine hK.out _ _ sT (fun _ => ?_)
          clear hK K
          try simp only [Act.put, List.setIfInBounds_toArray, List.set_cons_zero, List.set_cons_succ]
          refine wpAnyH_done (by kernel_rfl) ?_ _
          go_wp2
          obtain ⟨f1, f2⟩ := las_step (s := sc) HR.out rfl U1.out U2.out HSL.out HB2.out (u := .slice (some ⟨g1, 0, none⟩) 256 cap1) (by have h := HO1.out; rw [HSC.out]; rw [HSC.out] at h; simpa using h) (grown_alloc' HG3.out) (by have e1 : (loaded l k).ls.length = k := sects_len l k; rw [e1]; exact HO3.out)
          refine ⟨⟨k + 1, M, .slice (some ⟨g, 0, none⟩) (k + 1) cap3, by omega, by have := HM.out; omega, by first | rfl | (congr 1; omega), ?_, f2 w HBL.out⟩, by simp [intOf]; omega⟩
          have e2 : loaded l (k + 1) = { loaded l k with ls := (loaded l k).ls ++ [sc] } := by unfold loaded; rw [sects_succ, HSC.out, HM.out]
          rw [e2]
          exact f1
        · go_simp
          refine hK.out _ _ sT (fun _ => ?_)
          clear hK K
          try simp only [Act.put, List.setIfInBounds_toArray, List.set_cons_zero, List.set_cons_succ]
          refine wpAnyH_ready (rs := [4]) (by kernel_rfl) (by simp) ?_
          refine AllReadyH.cons (o := ⟨some 33, _, _, _, _, _⟩) rfl (fun K hK => ?_) AllReadyH.nil
          go_simp
          refine hK.out _ _ sT (fun _ => ?_)
          clear hK K
          try simp only [Act.put, List.setIfInBounds_toArray, List.set_cons_zero, List.set_cons_succ]
          refine wpAnyH_ready (rs := [13]) (by kernel_rfl) (by simp) ?_
          refine AllReadyH.cons (o := ⟨some 42, _, _, _, _, _⟩) rfl (fun K hK => ?_) AllReadyH.nil
          refine step_append_lies _ rfl (.tmp 33) (.tmp 41) 43 rfl w.heap.size 22 i1 (.slice none 0 0) 1 24 und43 hi1 hy0 hy1 hy2 rfl (by decide) lv k vs rfl (HUB.out _ (HB2.out.alloc hs2 _)) ⟨w2.heap.size, 0, none⟩ 1 1 [.slice (some ⟨g1, 0, none⟩) 256 cap1] rfl rfl (news_alloc w2 [.slice (some ⟨g1, 0, none⟩) 256 cap1] 22) (by intro u hu; simp at hu; subst hu; rfl) (by decide) (by unfold maxLen; omega) (by omega) (by simp; omega) _ rfl ?_
          intro g cap3 w3 hown3 hgr3 hat3 hlt3
          have HO3 := Lib.hid hown3
          have HG3 := Lib.hid hgr3
          have hz3 := (hgr3.block w.heap.size (by simp; omega) (fun e => hnb.out e.symm)).trans ((HB2.out.alloc hs2 (.cells #[.slice (some ⟨g1, 0, none⟩) 256 cap1] 22)).block w.heap.size hwl)
          have z3 : w3.cell? ⟨w.heap.size, 0, none⟩ = some lv := (World.cell?_of_block (a := ⟨w.heap.size, 0, none⟩) hz3).trans c0
          have z4 : w3.frozen? ⟨w.heap.size, 0, none⟩ = false := (World.frozen?_of_block (a := ⟨w.heap.size, 0, none⟩) hz3).trans (fz 0)
          clear hown3 hgr3 hat3 hlt3 hz3
          refine hK.out _ _ sT (fun _ => ?_)
          clear hK K
          try simp only [Act.put, List.setIfInBounds_toArray, List.set_cons_zero, List.set_cons_succ]
          refine wpAnyH_take (i := 14) (oi := ⟨some 43, _, _, _, _, _⟩) (v := (.pointer (some ⟨w.heap.size, 0, none⟩))) rfl (by kernel_rfl) (by kernel_rfl) (by kernel_rfl) (fun _ _ _ h => h) (Or.inl ⟨by rfl, ?_⟩) (by assumption) ?_
          · intro w' hSw
            go_simp
          try simp only [Act.put, List.setIfInBounds_toArray, List.set_cons_zero, List.set_cons_succ]
          refine wpAnyH_take (i := 15) (oi := ⟨some 44, _, _, _, _, _⟩) (v := (.pointer (some ⟨w.heap.size, 0, none⟩))) rfl (by kernel_rfl) (by kernel_rfl) (by kernel_rfl) (fun _ _ _ h => h) (Or.inl ⟨by rfl, ?_⟩) (by assumption) ?_
          · intro w' hSw
            go_simp
          try simp only [Act.put, List.setIfInBounds_toArray, List.set_cons_zero, List.set_cons_succ]
          refine wpAnyH_ready (rs := [16]) (by kernel_rfl) (by simp) ?_
          refine AllReadyH.cons (o := ⟨none, _, _, _, _, _⟩) rfl (fun K hK => ?_) AllReadyH.nil
          go_simp
          refine hK.out _ _ sT (fun _ => ?_)
          clear hK K
          try simp only [Act.put, List.setIfInBounds_toArray, List.set_cons_zero, List.set_cons_succ]
          refine wpAnyH_done (by kernel_rfl) ?_ _
          go_wp2
          obtain ⟨f1, f2⟩ := las_step (s := sc) HR.out rfl U1.out U2.out HSL.out HB2.out (u := .slice (some ⟨g1, 0, none⟩) 256 cap1) (by have h := HO1.out; rw [HSC.out]; rw [HSC.out] at h; simpa using h) (grown_alloc' HG3.out) (by have e1 : (loaded l k).ls.length = k := sects_len l k; rw [e1]; exact HO3.out)
          refine ⟨⟨k + 1, M, .slice (some ⟨g, 0, none⟩) (k + 1) cap3, by omega, by have := HM.out; omega, by first | rfl | (congr 1; omega), ?_, f2 w HBL.out⟩, by simp [intOf]; omega⟩
          have e2 : loaded l (k + 1) = { loaded l k with ls := (loaded l k).ls ++ [sc] } := by unfold loaded; rw [sects_succ, HSC.out, HM.out]
          rw [e2]
          exact f1
    · obtain rfl : k = n := by omega
      obtain rfl : m = N := by have := HNN.out; omega
      go_wp2
      go_ret2
      exact ⟨_, _, rfl, HR.out, HBL.out⟩
end Go.Proofs.Ytnplcfgjidolbaa
end
