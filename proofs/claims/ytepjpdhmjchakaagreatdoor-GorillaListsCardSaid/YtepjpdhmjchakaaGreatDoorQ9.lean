import Derived.Test.YtepjpdhmjchakaaGreatDoorQ8
import Derived.Test.YtepjpdhmjchakaaGreatDoorQ1
import Derived.Deep.AppendLies
import Derived.Deep.RegionLaw
/- The program's read of a chunk (printed by genrr4.py out of Rr4.src). -/
namespace Go.Proofs.YtepjpdhmjchakaaGreatDoor
open Go.RowKit
set_option linter.unusedVariables false

/-- What read says. -/
def GrPost (w : World) (F T N : Int) (D : List UInt8) (e : Ending) (w' : World) : Prop :=
  (∃ (b : Bool) (ls : List Gz.Smp) (v : Value), e = .returned (.tuple #[v, .bool b]) ∧ w'.ownsRow w.heap.size 79 2 v ls.length (smCs ls) ∧ (∀ s ∈ ls, (-9223372036854775808 ≤ s.t ∧ s.t ≤ 9223372036854775807) ∧ s.v < 18446744073709551616) ∧ ls.length ≤ 120 ∧
    ((b = true ∧ RdOk F T N D ls) ∨ (b = false ∧ ¬ ∃ ls, RdOk F T N D ls))) ∧ Below w.heap.size w w'
theorem GrPost.no {w w' : World} {F T N : Int} {D : List UInt8} {e : Ending} (he : e = .returned (.tuple #[.slice none 0 0, .bool false])) (h : ¬ ∃ ls, RdOk F T N D ls) (hb : Below w.heap.size w w') : GrPost w F T N D e w' :=
  ⟨⟨false, [], _, he, World.ownsRow_nil _ _ _ _, by simp, by simp, .inr ⟨rfl, h⟩⟩, hb⟩
/-- At the head of read's loop: the samples so far; the reader is good and has found them, or it is bad and the chunk is none. -/
def Lp (wr : World) (base Q B lo hi : Nat) (v' : Value) (D : List UInt8) (N : Int) (vl : Value) (m : Nat) (ls : List Gz.Smp) : Prop :=
  wr.ownsRow base 79 2 vl m (smCs ls) ∧ ls.length = m ∧ 1 ≤ m ∧ (m : Int) ≤ N ∧ (∀ s ∈ ls, (-9223372036854775808 ≤ s.t ∧ s.t ≤ 9223372036854775807) ∧ s.v < 18446744073709551616) ∧
  ∃ bad at_ step wl wR, step < 18446744073709551616 ∧ Rg wr Q B v' at_ D lo hi bad step wl wR false ∧
    ((bad = false ∧ ∃ d, Gz.decN (Bt.unpack D) (m - 1) = some (d, ls) ∧ at_ = d.at_ ∧ step = d.step ∧ wl = (d.win.1 : Int) ∧ wR = (d.win.2 : Int)) ∨ (bad = true ∧ Gz.decN (Bt.unpack D) (N.toNat - 1) = none))
theorem first_ok {U : List Bool} {x a y b : Nat} (h : Bt.rv U 0 = .inr (x, a)) (h2 : Gz.rdk U a 64 = some (y, b)) : Gz.decN U 0 = some (⟨b, un x, y, 0, (0, 0)⟩, [⟨un x, y⟩]) := by
  unfold Gz.decN Gz.first
  rw [h]
  simp only [h2, Option.map_some]
theorem first_no1 {U : List Bool} {k : Nat} (h : Bt.rv U 0 = .inl k) : Gz.decN U 0 = none := by
  unfold Gz.decN Gz.first
  rw [h]
theorem first_no2 {U : List Bool} {x a : Nat} (h : Bt.rv U 0 = .inr (x, a)) (h2 : Gz.rdk U a 64 = none) : Gz.decN U 0 = none := by
  unfold Gz.decN Gz.first
  rw [h]
  simp only [h2, Option.map_none]
theorem own_lit {w : World} {base : Nat} (t : Int) (x : Nat) (hb : base ≤ w.heap.size) : (w.alloc (.cells #[.int .i64 t, .int .u64 (x : Int)] 79)).ownsRow base 79 2 (.slice (some ⟨w.heap.size, 0, none⟩) 1 1) 1 (smCs [⟨t, x⟩]) :=
  ⟨rfl, .inr ⟨w.heap.size, 1, _, rfl, hb, heap_alloc_new w _, Nat.le_refl _, by unfold maxLen; decide, rfl, rfl⟩⟩
theorem fine_take {l : List Gz.Smp} (hf : Gz.Fine l) (k : Nat) : Gz.Fine (l.take k) :=
  ⟨fun s hs => hf.far s (List.mem_of_mem_take hs), fun i a b ha hb => by
    have h3 := (List.getElem?_eq_some_iff.1 hb).1
    simp at h3
    rw [List.getElem?_take_of_lt (by omega)] at ha hb
    exact hf.rise i a b ha hb, by have := hf.len; simp; omega⟩
theorem app_fine {l : List Gz.Smp} {s : Gz.Smp} (hf : Gz.Fine l) (hl : l.length < 120) (hv : s.v < 18446744073709551616) :
    (((Gz.Ap.all l).app s).2 = 0 → Gz.Fine (l ++ [s]) ∧ ((Gz.Ap.all l).app s).1 = Gz.Ap.all (l ++ [s])) ∧ (((Gz.Ap.all l).app s).2 ≠ 0 → ¬ Gz.Fine (l ++ [s])) := by
  obtain ⟨i1, i2, i3⟩ := Gz.all_has _ l rfl hf
  unfold Gz.Ap.app
  by_cases h1 : s.t < -Gz.far ∨ Gz.far < s.t
  · rw [if_pos h1]
    exact ⟨fun h => absurd (show (2 : Int) = 0 from h) (by decide), fun _ h => by have := h.far s (by simp); omega⟩
  rw [if_neg h1, i2]
  by_cases h2 : 0 < l.length ∧ s.t ≤ (Gz.Ap.all l).t
  · rw [if_pos h2]
    refine ⟨fun h => absurd (show (100 : Int) = 0 from h) (by decide), fun _ h => ?_⟩
    obtain ⟨l', b, rfl⟩ := Gz.snoc_ex l (by intro e; subst e; simp at h2)
    have := (i3 b (by simp)).1
    have := h.rise l'.length b s (by simp) (by simp)
    omega
  rw [if_neg h2, if_neg (by omega)]
  refine ⟨fun _ => ⟨⟨fun x hx => ?_, fun i a b ha hb => ?_, by simp; omega⟩, by rw [Gz.Ap.all_snoc]⟩, fun h => absurd rfl h⟩
  · rcases List.mem_append.1 hx with hx | hx
    · exact hf.far x hx
    · simp at hx; subst hx; omega
  · by_cases hi : i + 1 < l.length
    · rw [List.getElem?_append_left (by omega)] at ha
      rw [List.getElem?_append_left hi] at hb
      exact hf.rise i a b ha hb
    · have hb1 := (List.getElem?_eq_some_iff.1 hb).1
      simp at hb1
      rw [List.getElem?_append_left (by omega)] at ha
      rw [List.getElem?_append_right (by omega), show i + 1 - l.length = 0 by omega] at hb
      simp at hb
      subst hb
      have := (i3 a (by rw [List.getLast?_eq_getElem?, show l.length - 1 = i by omega]; exact ha)).1
      rcases Int.lt_or_le (Gz.Ap.all l).t s.t with h | h
      · omega
      · exact absurd ⟨by omega, h⟩ h2
theorem dec_step {U : List Bool} {j s2 a3 x c : Nat} {w' : Nat × Nat} {d : Gz.Ds} {ls : List Gz.Smp} (hd : Gz.decN U j = some (d, ls)) (hs : Gz.stepD U (j + 1) d = some (s2, a3)) (hn : Gz.numD U d.win a3 = some (x, w', c)) :
    Gz.decN U (j + 1) = some (⟨c, wrap64 (d.t + (s2 : Int)), d.v ^^^ x, s2, w'⟩, ls ++ [⟨wrap64 (d.t + (s2 : Int)), d.v ^^^ x⟩]) := by
  unfold Gz.decN
  rw [hd]
  simp only [Option.bind_some]
  unfold Gz.next
  rw [hs]
  simp only [Option.bind_some]
  rw [hn]
  rfl
theorem dec_no1 {U : List Bool} {j : Nat} {d : Gz.Ds} {ls : List Gz.Smp} (hd : Gz.decN U j = some (d, ls)) (hs : Gz.stepD U (j + 1) d = none) : Gz.decN U (j + 1) = none := by
  unfold Gz.decN
  rw [hd]
  simp only [Option.bind_some]
  unfold Gz.next
  rw [hs]
  rfl
theorem dec_no2 {U : List Bool} {j s2 a3 : Nat} {d : Gz.Ds} {ls : List Gz.Smp} (hd : Gz.decN U j = some (d, ls)) (hs : Gz.stepD U (j + 1) d = some (s2, a3)) (hn : Gz.numD U d.win a3 = none) : Gz.decN U (j + 1) = none := by
  unfold Gz.decN
  rw [hd]
  simp only [Option.bind_some]
  unfold Gz.next
  rw [hs]
  simp only [Option.bind_some]
  rw [hn]
  rfl
theorem time_eq (t : Int) (s : Nat) (ht : -9223372036854775808 ≤ t ∧ t ≤ 9223372036854775807) : IntKind.i64.wrap (IntKind.u64.wrap (IntKind.u64.wrap t + (s : Int))) = wrap64 (t + (s : Int)) := by
  rw [IntKind.wrap_u64, IntKind.wrap_u64, IntKind.wrap_i64]
  unfold wrap64
  omega
/-- What holds behind one more sample. -/
theorem lp_state {U : List Bool} {N wl' wr' : Int} {d : Gz.Ds} {ls : List Gz.Smp} {j s2 ac xn cn : Nat} {bc bn : Bool} (hd : Gz.decN U j = some (d, ls)) (hN : ((j + 1 : Nat) : Int) < N)
    (hst : (bc = false ∧ Gz.stepD U (j + 1) d = some (s2, ac)) ∨ (bc = true ∧ Gz.stepD U (j + 1) d = none))
    (hpn : (bc = false ∧ (∃ a b a' b' : Nat, (d.win.1 : Int) = a ∧ (d.win.2 : Int) = b ∧ wl' = a' ∧ wr' = b' ∧ Gz.numD U (a, b) ac = some (xn, (a', b'), cn) ∧ a' + b' ≤ 63) ∧ bn = false) ∨
       (bn = true ∧ (bc = true ∨ ∃ a b : Nat, (d.win.1 : Int) = a ∧ (d.win.2 : Int) = b ∧ Gz.numD U (a, b) ac = none))) :
    (bn = false ∧ ∃ d', Gz.decN U (j + 1 + 1 - 1) = some (d', ls ++ [⟨wrap64 (d.t + (s2 : Int)), d.v ^^^ xn⟩]) ∧ cn = d'.at_ ∧ s2 = d'.step ∧ wl' = (d'.win.1 : Int) ∧ wr' = (d'.win.2 : Int)) ∨ (bn = true ∧ Gz.decN U (N.toNat - 1) = none) := by
  rcases hpn with ⟨h1, ⟨a, b, a', b', ha, hb, h2, h3, h4, _⟩, h5⟩ | ⟨h1, h2⟩
  · left
    refine ⟨h5, ⟨cn, wrap64 (d.t + (s2 : Int)), d.v ^^^ xn, s2, (a', b')⟩, ?_, rfl, rfl, h2, h3⟩
    rcases hst with ⟨_, h6⟩ | ⟨h6, _⟩
    · have e1 : a = d.win.1 := by omega
      have e2 : b = d.win.2 := by omega
      subst e1 e2
      exact dec_step hd h6 h4
    · rw [h1] at h6; cases h6
  · right
    refine ⟨h1, Gz.dec_none (k := j + 1) ?_ (by omega)⟩
    rcases hst with ⟨h6, h7⟩ | ⟨_, h7⟩
    · rcases h2 with h2 | ⟨a, b, ha, hb, h4⟩
      · rw [h6] at h2; cases h2
      · have e1 : a = d.win.1 := by omega
        have e2 : b = d.win.2 := by omega
        subst e1 e2
        exact dec_no2 hd h7 h4
    · exact dec_no1 hd h7
theorem Rg.grow {w w1 : World} {Q B at_ lo hi step : Nat} {v : Value} {l : List UInt8} {bad is : Bool} {wl wr : Int} (h : Rg w Q B v at_ l lo hi bad step wl wr is) {r : Option Nat} (g : w.grownBy w1 r) (hQ : r ≠ some Q) (hB : r ≠ some B) (hr : ∀ k, r = some k → hi ≤ k) : Rg w1 Q B v at_ l lo hi bad step wl wr is :=
  ⟨(g.block Q (heap_lt h.top) (fun e => hQ e.symm)).trans h.top, ⟨(g.block B (heap_lt h.rd.cells) (fun e => hB e.symm)).trans h.rd.cells, h.rd.data.same (fun k h1 h2 => g.block k (by have := h.hq; have := heap_lt h.top; omega) (fun e => by have := hr k e.symm; omega)), h.rd.apart, h.rd.le⟩, h.hq⟩
theorem time_in (x : Int) : -9223372036854775808 ≤ wrap64 x ∧ wrap64 x ≤ 9223372036854775807 := by unfold wrap64; omega
theorem own_block_ne2 {w : World} {base : Nat} {e : TypeId} {s : Nat} {v : Value} {n : Nat} {xs : List Value} (h : w.ownsRow base e s v n xs) {B : Nat} {cs : Array Value} {t : TypeId} {fr : Nat × Nat} (hB : w.heap[B]? = some (.cells cs t fr)) (hne : e ≠ t) : v.ownBlock ≠ some B := by
  intro e1
  obtain ⟨_, ⟨rfl, _⟩ | ⟨g, c, cur, rfl, _, hh, _⟩⟩ := h
  · cases e1
  · have e2 : g = B := by injection e1
    rw [e2, hB] at hh
    injection hh with hh
    injection hh with _ hh
    exact hne hh.symm
theorem infoSm4 : (Tryz.prog.info? 79).map (fun i => (i.zero, i.size, i.bytes)) = some (some (.agg #[.int .i64 0, .int .u64 0]), 2, 16) := by kernel_rfl
def lenOf : Value → Nat
  | .slice _ n _ => n
  | _ => 0

set_option maxHeartbeats 4000000 in
set_option maxRecDepth 100000 in
theorem gread_in (w : World) (F T N : Int) (u : Value) (D : List UInt8) (lo hi : Nat) (hu : Sl lo hi f8 w u D) (hhi : hi ≤ w.heap.size) (hN : 1 ≤ N ∧ N ≤ 120) (hT : TabW w) :
    Calls Tryz.prog 72 #[.agg #[.int .i64 F, .int .i64 T, .int .i64 N, u]] w fun e w' => GrPost w F T N D e w' := by
  obtain ⟨i0, hi0, hz0, hz1, hz2⟩ := info_parts infoSm4
  obtain ⟨Wa, hWa⟩ : ∃ Wa, w.alloc (.cells #[.int .i64 F, .int .i64 T, .int .i64 N, u] 26) = Wa := ⟨_, rfl⟩
  have hba : Below w.heap.size w Wa := by rw [← hWa]; exact (Below.refl _ _).alloc (Nat.le_refl _) _
  have hbx : Wa.heap[w.heap.size]? = some (.cells #[.int .i64 F, .int .i64 T, .int .i64 N, u] 26 (0, 0)) := by rw [← hWa]; exact heap_alloc_new w _
  have hsa : Wa.heap.size = w.heap.size + 1 := by rw [← hWa]; simp
  obtain ⟨k0, k1, k2, k3, kz⟩ := box4 hbx
  have HBA := Lib.hid hba
  have HBX := Lib.hid hbx
  have HU := Lib.hid (hu.below hba hhi)
  have HSA := Lib.hid hsa
  clear hba hbx hu hsa
  have g1 : decide (N < 1) = false := decide_eq_false (by omega)
  have g2 : decide (120 < N) = false := decide_eq_false (by omega)
  go_enter Tryz.func72, Tryz.ntmps72
  go_wp2_with fail
  refine Calls.mono (by exact read_any lo hi Wa u D HU.out (by have := HSA.out; omega)) ?_
  rintro e w1 ⟨B, v', hi', rfl, hBl, hrd, hb1, hh1, hB1⟩
  have HRD := Lib.hid hrd
  have HB1 := Lib.hid hb1
  clear hrd hb1
  obtain ⟨W2, hW2⟩ : ∃ W2, w1.alloc (.cells #[.pointer (some ⟨B, 0, none⟩), .bool false, .int .u64 0, .int .i64 0, .int .i64 0, .bool false] 232) = W2 := ⟨_, rfl⟩
  have hb2 : Below w1.heap.size w1 W2 := by rw [← hW2]; exact (Below.refl _ _).alloc (Nat.le_refl _) _
  have hr2 : Rg W2 w1.heap.size B v' 0 D Wa.heap.size hi' false 0 0 0 false := ⟨by rw [← hW2]; exact heap_alloc_new w1 _, HRD.out.belowW hh1 hb2, hh1⟩
  obtain ⟨c0, c1, c2, c3, c4, c5, cz⟩ := hr2.cell
  have HR2 := Lib.hid hr2
  have HB2 := Lib.hid hb2
  clear hr2 hb2
  go_wp2_with fail
  refine Calls.mono (by exact signed_c Wa.heap.size hi' W2 B 0 v' D HR2.out.rd (by have := HB2.out.size; omega)) ?_
  rintro e w3 ⟨t0, er, a3, rfl, ht0, hr3, hg3, hp3⟩
  have h3 := HR2.out.go hr3 hg3
  obtain ⟨d0, d1, d2, d3, d4, d5, dz⟩ := h3.cell
  obtain ⟨bd, hbd⟩ : ∃ bd : Bool, ((er : Int) != 0) = bd := ⟨_, rfl⟩
  have HR3 := Lib.hid h3
  have HG3 := Lib.hid hg3
  have HP3 := Lib.hid hp3
  clear h3 hr3 hg3 hp3 c0 c1 c2 c3 c4 c5 cz
  go_wp2_with fail
  have hr4 := HR3.out.set 1 (.bool bd) rfl
  have HG4 := Lib.hid (Ga.setQ (w := w3) (Q := w1.heap.size) (B := B) 1 (.bool bd))
  generalize w3.setCell ⟨w1.heap.size, 1, none⟩ (.bool bd) = w4 at *
  have HR4 := Lib.hid hr4
  clear hr4 d0 d1 d2 d3 d4 d5 dz
  refine Calls.mono (by exact gbits_c HR4.out 64 (by decide)) ?_
  rintro e w5 ⟨x5, a5, bad5, hx5, rfl, hr5, hg5, hp5⟩
  have HR5 := Lib.hid hr5
  have HG5 := Lib.hid hg5
  have HP5 := Lib.hid hp5
  clear hr5 hg5 hp5
  go_wp2_with fail
  go_loopw [7] (fun vl wr => ∃ (m : Nat) (ls : List Gz.Smp), Lp wr w1.heap.size w1.heap.size B Wa.heap.size hi' v' D N vl m ls ∧ Below (w.heap.size + 1) Wa wr) (fun vl _ => N.toNat - lenOf vl)
  case atStart =>
    have hs1 := HB1.out.size
    have hs2 := HB2.out.size
    have hs3 := HG3.out.size
    have hs4 := HG4.out.size
    have hs5 := HG5.out.size
    have hsa := HSA.out
    refine ⟨1, [⟨t0, x5⟩], ⟨own_lit t0 x5 (by omega), rfl, Nat.le_refl _, hN.1, ?_, bad5, a5, 0, 0, 0, by decide, HR5.out.below (al_b w5 _), ?_⟩, ?_⟩
    · intro s hs
      simp at hs
      subst hs
      exact ⟨ht0, hx5⟩
    · rcases HP3.out with ⟨q1, x, q2, q3⟩ | ⟨q1, q2, _, _⟩
      · have hb : bd = false := by rw [← hbd, q1]; rfl
        rcases HP5.out with ⟨_, p2, p3⟩ | ⟨p1, p2⟩
        · left
          refine ⟨p3, ⟨a5, un x, x5, 0, (0, 0)⟩, ?_, rfl, rfl, rfl, rfl⟩
          rw [q3]
          exact first_ok q2 p2
        · right
          refine ⟨p1, Gz.dec_none (k := 0) ?_ (Nat.zero_le _)⟩
          rcases p2 with p2 | p2
          · rw [hb] at p2; cases p2
          · exact first_no2 q2 p2
      · have hb : bd = true := by rw [← hbd]; simp; omega
        rcases HP5.out with ⟨p1, _, _⟩ | ⟨p1, _⟩
        · rw [hb] at p1; cases p1
        · exact .inr ⟨p1, Gz.dec_none (k := 0) (first_no1 q2) (Nat.zero_le _)⟩
    · have b1 := (HB1.out.mono (show w.heap.size + 1 ≤ Wa.heap.size by omega)).trans (HB2.out.mono (by omega))
      have b3 := HG3.out.below (B := w.heap.size + 1) (by omega) (by omega) (by simp)
      have b4 := HG4.out.below (C := w.heap.size + 1) (by omega) (by omega) (by omega) (by simp)
      have b5 := HG5.out.below (C := w.heap.size + 1) (by omega) (by omega) (by omega) (by simp)
      exact (((b1.trans b3).trans b4).trans b5).alloc (by omega) _
  case round =>
    obtain ⟨m, ls, ⟨hown, hlm, h1m, hmN, hfit, bad, at_, step, wl, wR, hstl, hrg, hst⟩, hbel⟩ := hrel
    obtain ⟨al, cl, rfl⟩ := own_slice hown
    have hbx := (hbel.block w.heap.size (by omega)).trans HBX.out
    obtain ⟨b0, b1, b2, b3, bz⟩ := box4 hbx
    obtain ⟨r0, r1, r2, r3, r4, r5, rz⟩ := hrg.cell
    have HO := Lib.hid hown
    have HR := Lib.hid hrg
    have HB := Lib.hid hbel
    have HST := Lib.hid hst
    have HFT := Lib.hid hfit
    clear hown hrg hbel hst hbx hfit k0 k1 k2 k3 kz HR5 HG5 HP5 HR4 HG4 HP3 HG3 HR3
    by_cases hbad : bad = true
    · subst hbad
      have hno : Gz.decN (Bt.unpack D) (N.toNat - 1) = none := by
        rcases HST.out with ⟨h, _⟩ | ⟨_, h⟩
        · cases h
        · exact h
      clear HST
      go_wp2_with fail
      all_goals
        go_ret2
        exact GrPost.no rfl (fun ⟨ls', _, _, d, hd, _⟩ => by rw [hno] at hd; cases hd) (HBA.out.trans (HB.out.mono (by omega)))
    · obtain rfl : bad = false := by simpa using hbad
      clear hbad
      obtain ⟨d, hd, rfl, rfl, rfl, rfl⟩ : ∃ d, Gz.decN (Bt.unpack D) (m - 1) = some (d, ls) ∧ at_ = d.at_ ∧ step = d.step ∧ wl = (d.win.1 : Int) ∧ wR = (d.win.2 : Int) := by
        rcases HST.out with ⟨_, h⟩ | ⟨h, _⟩
        · exact h
        · cases h
      clear HST
      by_cases hmN2 : (m : Int) < N
      · obtain ⟨j, rfl⟩ : ∃ j, m = j + 1 := ⟨m - 1, by omega⟩
        have hdk := Gz.dec_dk _ _ _ _ hd
        obtain ⟨as', cs', hsv, hsms⟩ := Sms.owns (l := ls) (by rw [hlm]; exact HO.out) (by unfold maxLen; omega) HFT.out
        rw [hlm] at hsv
        injection hsv with q1 q2 q3
        subst q1 q3
        obtain ⟨bs, off, hal, hbs, hcell⟩ := hsms.cells (by intro e; subst e; simp at hlm)
        subst hal
        have x0 := (hcell j (by omega)).c0
        have x1 := (hcell j (by omega)).c1
        have hlast : ls[j]'(by omega) = ⟨d.t, d.v⟩ := by
          have h1 := hdk.last
          rw [List.getLast?_eq_getElem?, hlm, Nat.add_sub_cancel, List.getElem?_eq_getElem (by omega)] at h1
          injection h1
        rw [hlast] at x0 x1
        have e2 : IntKind.i64.wrap (j : Int) = (j : Int) := by rw [IntKind.wrap_i64]; omega
        have i1 : (0 : Int) ≤ (j : Int) ∧ (j : Int) < ((j + 1 : Nat) : Int) := by omega
        have gm : decide (((j + 1 : Nat) : Int) < N) = true := decide_eq_true hmN2
        have y0 := cell_al (o := .cells #[.int .i64 d.t, .int .u64 (d.v : Int)] 79) r0
        clear hcell hsms
        by_cases hj : j = 0
        · subst hj
          rw [Nat.zero_mul, Nat.add_zero] at x0 x1
          go_wp2_with fail
          have HRA := Lib.hid (HR.out.below (al_b wr (.cells #[.int .i64 d.t, .int .u64 (d.v : Int)] 79)))
          have HLA := Lib.hid (heap_alloc_new wr (.cells #[.int .i64 d.t, .int .u64 (d.v : Int)] 79))
          have hq1 := HRA.out.hq
          have hq2 := heap_lt HR.out.top
          have hq3 := HB.out.size
          have hq4 := HSA.out
          have hq5 := HB1.out.size
          have hq6 : wr.heap.size < (wr.alloc (.cells #[.int .i64 d.t, .int .u64 (d.v : Int)] 79)).heap.size := by simp
          have hq7 : B < wr.heap.size := heap_lt HR.out.rd.cells
          have HBA2 := Lib.hid (HB.out.alloc (by omega) (.cells #[.int .i64 d.t, .int .u64 (d.v : Int)] 79))
          have HOA := Lib.hid (HO.out.alloc (.cells #[.int .i64 d.t, .int .u64 (d.v : Int)] 79))
          generalize wr.alloc (.cells #[.int .i64 d.t, .int .u64 (d.v : Int)] 79) = wa at *
          refine Calls.mono (by exact varint_c Wa.heap.size hi' wa B d.at_ v' D HRA.out.rd (by have := HRA.out.hq; have := heap_lt HRA.out.top; omega)) ?_
          rintro e wv ⟨xs, erv, av, hxs, rfl, hrv, hgv, hpv⟩
          have hgq : Ga w1.heap.size B none wa wv := Ga.ofGro hgv
          have hr6 := HRA.out.go hrv hgv
          have HL6 := Lib.hid ((hgq.block wr.heap.size (heap_lt HLA.out) (by omega) (by omega) (by simp)).trans HLA.out)
          have HB6 := Lib.hid (hgq.below (C := w.heap.size + 1) (by omega) (by omega) (by omega) (by simp))
          obtain ⟨t0', t1', t2', t3', t4', t5', tz'⟩ := hr6.cell
          obtain ⟨bv, hbv⟩ : ∃ bv : Bool, ((erv : Int) != 0) = bv := ⟨_, rfl⟩
          have hr7 := hr6.set 2 (.int .u64 (xs : Int)) (step' := xs) rfl
          have hg7 := Ga.setQ (w := wv) (Q := w1.heap.size) (B := B) 2 (.int .u64 (xs : Int))
          have hr8 := hr7.set 1 (.bool bv) (bad' := bv) rfl
          have hg8 := Ga.setQ (w := wv.setCell ⟨w1.heap.size, 2, none⟩ (.int .u64 (xs : Int))) (Q := w1.heap.size) (B := B) 1 (.bool bv)
          have HST := Lib.hid (show (bv = false ∧ Gz.stepD (Bt.unpack D) (0 + 1) d = some (xs, av)) ∨ (bv = true ∧ Gz.stepD (Bt.unpack D) (0 + 1) d = none) by
            unfold Gz.stepD
            rw [if_pos rfl]
            rcases hpv with ⟨h1, h2⟩ | ⟨h1, h2⟩
            · exact .inl ⟨by rw [← hbv, h1]; rfl, by rw [h2]⟩
            · exact .inr ⟨by rw [← hbv]; simp; omega, by rw [h2]⟩)
          have HHR := Lib.hid hr8
          have HHG := Lib.hid ((hgq.trans hg7 (Anew.refl _ _)).trans hg8 (Anew.refl _ _))
          clear hrv hgv hpv hgq hr6 hr7 hr8 hg7 hg8
          go_wp2_with fail
          generalize hwy : (wv.setCell ⟨w1.heap.size, 2, none⟩ (.int .u64 (xs : Int))).setCell ⟨w1.heap.size, 1, none⟩ (.bool bv) = wy at *
          clear hwy t0' t1' t2' t3' t4' t5' tz'
          obtain ⟨u0, u1, u2, u3, u4, u5, uz⟩ := HHR.out.cell
          have HLY := Lib.hid ((HHG.out.block wr.heap.size (heap_lt HLA.out) (by omega) (by omega) (by simp)).trans HLA.out)
          obtain ⟨l0, l1⟩ := box2 HLY.out
          have HBY := Lib.hid (HBA2.out.trans (HHG.out.below (C := w.heap.size + 1) (by omega) (by omega) (by omega) (by simp)))
          have hsy := HHG.out.size
          have hbq := own_block_ne2 HOA.out HRA.out.top (by decide)
          have hbb := own_block_ne2 HOA.out HRA.out.rd.cells (by decide)
          have HOY := Lib.hid (own_of_same HOA.out (fun k hk => HHG.out.block k (HOA.out.lt k hk).2 (fun e => hbq (hk.trans (by rw [e]))) (fun e => hbb (hk.trans (by rw [e]))) (by simp)))
          have HDK := Lib.hid hdk
          have ht13 := time_eq d.t xs hdk.t
          obtain ⟨T, hT⟩ : ∃ T : Int, wrap64 (d.t + (xs : Int)) = T := ⟨_, rfl⟩
          rw [hT] at ht13
          have HT := Lib.hid hT
          clear hT
          refine wp_region_held_drew (S := fun w' => w'.cell? ⟨wr.heap.size, 0, none⟩ = some (.int .i64 d.t) ∧ w'.cell? ⟨wr.heap.size, 1, none⟩ = some (.int .u64 (d.v : Int)) ∧ w'.cell? ⟨w1.heap.size, 2, none⟩ = some (.int .u64 (xs : Int))) (by kernel_rfl) ⟨l0, l1, u2⟩ (fun hHeld => ?_)
          refine wpAnyH_take (i := 0) (oi := ⟨some 96, _, _, _, _, _⟩) (v := ?v43) rfl (by kernel_rfl) (by kernel_rfl) (by kernel_rfl) (fun _ _ _ h => h) (Or.inl ⟨by rfl, ?hy43⟩) (by assumption) ?_
          case hy43 => (intro w' hSw; (try dsimp only at hSw); go_simp <;> with_reducible rfl)
          try simp only [Act.put, List.setIfInBounds_toArray, List.set_cons_zero, List.set_cons_succ]
          refine wpAnyH_take (i := 1) (oi := ⟨some 97, _, _, _, _, _⟩) (v := ?v44) rfl (by kernel_rfl) (by kernel_rfl) (by kernel_rfl) (fun _ _ _ h => h) (Or.inl ⟨by rfl, ?hy44⟩) (by assumption) ?_
          case hy44 => (intro w' hSw; (try dsimp only at hSw); go_simp <;> with_reducible rfl)
          try simp only [Act.put, List.setIfInBounds_toArray, List.set_cons_zero, List.set_cons_succ]
          refine wpAnyH_take (i := 2) (oi := ⟨some 98, _, _, _, _, _⟩) (v := ?v45) rfl (by kernel_rfl) (by kernel_rfl) (by kernel_rfl) (fun _ _ _ h => h) (Or.inl ⟨by rfl, ?hy45⟩) (by assumption) ?_
          case hy45 => (intro w' hSw; (try dsimp only at hSw); go_simp <;> with_reducible rfl)
          try simp only [Act.put, List.setIfInBounds_toArray, List.set_cons_zero, List.set_cons_succ]
          refine wpAnyH_take (i := 3) (oi := ⟨some 99, _, _, _, _, _⟩) (v := ?v46) rfl (by kernel_rfl) (by kernel_rfl) (by kernel_rfl) (fun _ _ _ h => h) (Or.inl ⟨by rfl, ?hy46⟩) (by assumption) ?_
          case hy46 => (intro w' hSw; (try dsimp only at hSw); go_simp <;> with_reducible rfl)
          try simp only [Act.put, List.setIfInBounds_toArray, List.set_cons_zero, List.set_cons_succ]
          refine wpAnyH_take (i := 4) (oi := ⟨some 100, _, _, _, _, _⟩) (v := ?v47) rfl (by kernel_rfl) (by kernel_rfl) (by kernel_rfl) (fun _ _ _ h => h) (Or.inl ⟨by rfl, ?hy47⟩) (by assumption) ?_
          case hy47 => (intro w' hSw; (try dsimp only at hSw); go_simp <;> with_reducible rfl)
          try simp only [Act.put, List.setIfInBounds_toArray, List.set_cons_zero, List.set_cons_succ]
          refine wpAnyH_take (i := 5) (oi := ⟨some 101, _, _, _, _, _⟩) (v := ?v48) rfl (by kernel_rfl) (by kernel_rfl) (by kernel_rfl) (fun _ _ _ h => h) (Or.inl ⟨by rfl, ?hy48⟩) (by assumption) ?_
          case hy48 => (intro w' hSw; (try dsimp only at hSw); go_simp <;> with_reducible rfl)
          try simp only [Act.put, List.setIfInBounds_toArray, List.set_cons_zero, List.set_cons_succ]
          refine wpAnyH_take (i := 6) (oi := ⟨some 102, _, _, _, _, _⟩) (v := ?v49) rfl (by kernel_rfl) (by kernel_rfl) (by kernel_rfl) (fun _ _ _ h => h) (Or.inl ⟨by rfl, ?hy49⟩) (by assumption) ?_
          case hy49 => (intro w' hSw; (try dsimp only at hSw); go_simp <;> with_reducible rfl)
          try simp only [Act.put, List.setIfInBounds_toArray, List.set_cons_zero, List.set_cons_succ]
          refine wpAnyH_take (i := 7) (oi := ⟨some 103, _, _, _, _, _⟩) (v := ?v50) rfl (by kernel_rfl) (by kernel_rfl) (by kernel_rfl) (fun _ _ _ h => h) (Or.inl ⟨by rfl, ?hy50⟩) (by assumption) ?_
          case hy50 => (intro w' hSw; (try dsimp only at hSw); go_simp <;> with_reducible rfl)
          try simp only [Act.put, List.setIfInBounds_toArray, List.set_cons_zero, List.set_cons_succ]
          refine wpAnyH_take (i := 8) (oi := ⟨some 104, _, _, _, _, _⟩) (v := ?v51) rfl (by kernel_rfl) (by kernel_rfl) (by kernel_rfl) (fun _ _ _ h => h) (Or.inl ⟨by rfl, ?hy51⟩) (by assumption) ?_
          case hy51 => (intro w' hSw; (try dsimp only at hSw); go_simp <;> with_reducible rfl)
          try simp only [Act.put, List.setIfInBounds_toArray, List.set_cons_zero, List.set_cons_succ]
          refine wpAnyH_take (i := 9) (oi := ⟨some 105, _, _, _, _, _⟩) (v := ?v52) rfl (by kernel_rfl) (by kernel_rfl) (by kernel_rfl) (fun _ _ _ h => h) (Or.inl ⟨by rfl, ?hy52⟩) (by assumption) ?_
          case hy52 => (intro w' hSw; (try dsimp only at hSw); go_simp <;> with_reducible rfl)
          try simp only [Act.put, List.setIfInBounds_toArray, List.set_cons_zero, List.set_cons_succ]
          refine wpAnyH_take (i := 10) (oi := ⟨some 106, _, _, _, _, _⟩) (v := ?v53) rfl (by kernel_rfl) (by kernel_rfl) (by kernel_rfl) (fun _ _ _ h => h) (Or.inl ⟨by rfl, ?hy53⟩) (by assumption) ?_
          case hy53 => (intro w' hSw; (try dsimp only at hSw); go_simp <;> with_reducible rfl)
          try simp only [Act.put, List.setIfInBounds_toArray, List.set_cons_zero, List.set_cons_succ]
          refine wpAnyH_take (i := 11) (oi := ⟨some 107, _, _, _, _, _⟩) (v := ?v54) rfl (by kernel_rfl) (by kernel_rfl) (by kernel_rfl) (fun _ _ _ h => h) (Or.inl ⟨by rfl, ?hy54⟩) (by assumption) ?_
          case hy54 => (intro w' hSw; (try dsimp only at hSw); go_simp <;> with_reducible rfl)
          try simp only [Act.put, List.setIfInBounds_toArray, List.set_cons_zero, List.set_cons_succ]
          refine wpAnyH_take (i := 12) (oi := ⟨some 108, _, _, _, _, _⟩) (v := ?v55) rfl (by kernel_rfl) (by kernel_rfl) (by kernel_rfl) (fun _ _ _ h => h) (Or.inl ⟨by rfl, ?hy55⟩) (by assumption) ?_
          case hy55 => (intro w' hSw; (try dsimp only at hSw); go_simp <;> with_reducible rfl)
          try simp only [Act.put, List.setIfInBounds_toArray, List.set_cons_zero, List.set_cons_succ]
          refine wpAnyH_ready (rs := [13]) (by kernel_rfl) (by simp) ?_
          refine AllReadyH.cons (o := ⟨some 109, _, _, _, _, _⟩) rfl (fun K hK => ?_) AllReadyH.nil
          go_simp
          go_at_call 98
          refine Calls.mono (by exact number_c (HHR.out.below (drew_b wy)) (fun _ => ⟨d.win.1, d.win.2, rfl, rfl, HDK.out.win⟩)) ?_
          rintro e wn ⟨xn, cn, bn, wl', wr', hxn, rfl, hrn, hgn, hpn⟩
          have hxe : bits .xor .u64 (d.v : Int) (xn : Int) = ((d.v ^^^ xn : Nat) : Int) := bits_xor_u64_nat _ _ HDK.out.v hxn
          obtain ⟨X, hX⟩ : ∃ X : Nat, d.v ^^^ xn = X := ⟨_, rfl⟩
          have hXl : X < 18446744073709551616 := by rw [← hX]; exact Gz.xor_lt HDK.out.v hxn
          rw [hX] at hxe
          have HNX := Lib.hid hX
          clear hX
          have hgn2 := (Ga.ofBelow (drew_b wy)).trans hgn (Anew.refl _ _)
          have hlN := (hgn2.block wr.heap.size (heap_lt HLY.out) (by omega) (by omega) (by simp)).trans HLY.out
          obtain ⟨n0, n1⟩ := box2 hlN
          obtain ⟨-, -, n2, -, -, -, -⟩ := hrn.cell
          have HLN := Lib.hid hlN
          have HRN := Lib.hid hrn
          have HPN := Lib.hid hpn
          have HBN := Lib.hid (HBY.out.trans (hgn2.below (C := w.heap.size + 1) (by omega) (by omega) (by omega) (by simp)))
          have HON := Lib.hid (own_of_same HOY.out (fun k hk => hgn2.block k (HOY.out.lt k hk).2 (fun e => hbq (hk.trans (by rw [e]))) (fun e => hbb (hk.trans (by rw [e]))) (by simp)))
          have hsn := hgn2.size
          clear hlN hrn hgn hgn2 hpn
          refine hK.out _ _ ⟨n0, n1, n2⟩ (fun hHeld => ?_)
          clear hK K
          try simp only [Act.put, List.setIfInBounds_toArray, List.set_cons_zero, List.set_cons_succ]
          refine wpAnyH_take (i := 14) (oi := ⟨some 110, _, _, _, _, _⟩) (v := ?v56) rfl (by kernel_rfl) (by kernel_rfl) (by kernel_rfl) (fun _ _ _ h => h) (Or.inl ⟨by rfl, ?hy56⟩) (by assumption) ?_
          case hy56 => (intro w' hSw; (try dsimp only at hSw); go_simp <;> with_reducible rfl)
          try simp only [Act.put, List.setIfInBounds_toArray, List.set_cons_zero, List.set_cons_succ]
          try rw [hxe]
          refine wpAnyH_take (i := 15) (oi := ⟨some 111, _, _, _, _, _⟩) (v := ?v57) rfl (by kernel_rfl) (by kernel_rfl) (by kernel_rfl) (fun _ _ _ h => h) (Or.inl ⟨by rfl, ?hy57⟩) (by assumption) ?_
          case hy57 => (intro w' hSw; (try dsimp only at hSw); go_simp <;> with_reducible rfl)
          try simp only [Act.put, List.setIfInBounds_toArray, List.set_cons_zero, List.set_cons_succ]
          try rw [ht13]
          refine wpAnyH_ready (rs := [16]) (by kernel_rfl) (by simp) ?_
          refine AllReadyH.cons (o := ⟨some 112, _, _, _, _, _⟩) rfl (fun K hK => ?_) AllReadyH.nil
          go_simp
          refine hK.out _ _ ⟨cell_al n0, cell_al n1, cell_al n2⟩ (fun hHeld => ?_)
          clear hK K
          try simp only [Act.put, List.setIfInBounds_toArray, List.set_cons_zero, List.set_cons_succ]
          refine wpAnyH_ready (rs := [17]) (by kernel_rfl) (by simp) ?_
          refine AllReadyH.cons (o := ⟨some 113, _, _, _, _, _⟩) rfl (fun K hK => ?_) AllReadyH.nil
          refine step_append_lies _ rfl (.tmp 96) (.tmp 112) 22 rfl w1.heap.size 79 i0 (.agg #[.int .i64 0, .int .u64 0]) 2 16 Tryz.underlying22 hi0 hz0 hz1 hz2 rfl (by decide) (.slice (some ⟨bs, off, none⟩) (0 + 1) cl) (0 + 1) _ rfl (HON.out.alloc _) ⟨wn.heap.size, 0, none⟩ 1 1 [.int .i64 T, .int .u64 (X : Int)] rfl rfl (news_alloc wn [.int .i64 T, .int .u64 (X : Int)] 79) (by intro u hu; simp at hu; rcases hu with rfl | rfl <;> rfl) (by decide) (by unfold maxLen; omega) (by omega) (by simp; omega) _ rfl ?_
          intro g cg w6 hown6 hgr6 hat6 hlt6
          have hkl : ∀ k, (Value.slice (some ⟨bs, off, none⟩) (0 + 1) cl).ownBlock = some k → w1.heap.size ≤ k ∧ k < wr.heap.size := fun k hk => ⟨(HO.out.lt k hk).1, (HO.out.lt k hk).2⟩
          have hb6 := (HBN.out.alloc (by omega) _).grown hgr6 (by simp; omega) (fun k hk => by have := hkl k hk; omega)
          have hL6 := (hgr6.block wr.heap.size (by simp; omega) (fun e => by have := hkl _ e.symm; omega)).trans ((Below.heap_alloc wn _ _ (by omega)).trans HLN.out)
          have hR6 := (HRN.out.below (al_b wn _)).grow hgr6 hbq hbb (fun k hk => by have := hkl k hk; have := HRN.out.hq; omega)
          obtain ⟨p0, p1⟩ := box2 hL6
          obtain ⟨-, -, p2, -, -, -, -⟩ := hR6.cell
          have HO6 := Lib.hid hown6
          have HB6 := Lib.hid hb6
          have HR6 := Lib.hid hR6
          clear hown6 hgr6 hat6 hb6 hL6 hR6
          refine hK.out _ _ ⟨p0, p1, p2⟩ (fun hHeld => ?_)
          clear hK K
          try simp only [Act.put, List.setIfInBounds_toArray, List.set_cons_zero, List.set_cons_succ]
          refine wpAnyH_take (i := 18) (oi := ⟨some 7, _, _, _, _, _⟩) (v := ?v58) rfl (by kernel_rfl) (by kernel_rfl) (by kernel_rfl) (fun _ _ _ h => h) (Or.inl ⟨by rfl, ?hy58⟩) (by assumption) ?_
          case hy58 => (intro w' hSw; (try dsimp only at hSw); go_simp <;> with_reducible rfl)
          try simp only [Act.put, List.setIfInBounds_toArray, List.set_cons_zero, List.set_cons_succ]
          refine wpAnyH_done (by kernel_rfl) ?_ _
          clear p0 p1 p2 l0 l1 u0 u1 u2 u3 u4 u5 uz n0 n1 n2
          go_wp2_with fail
          refine ⟨⟨0 + 1 + 1, ls ++ [⟨T, X⟩], ⟨by rw [smCs_snoc]; exact HO6.out, by simp [hlm], by omega, by omega, fun s hs => ?_, bn, cn, xs, wl', wr', by omega, HR6.out, ?_⟩, HB6.out⟩, by simp [lenOf]; omega⟩
          · rcases List.mem_append.1 hs with hs | hs
            · exact HFT.out s hs
            · simp at hs; subst hs; exact ⟨by rw [← HT.out]; exact time_in _, hXl⟩
          · rw [← HT.out, ← HNX.out]; exact lp_state hd hmN2 HST.out HPN.out
        · have g9 : (((j + 1 : Nat) : Int) == 1) = false := by simp; omega
          go_wp2_with fail
          have HRA := Lib.hid (HR.out.below (al_b wr (.cells #[.int .i64 d.t, .int .u64 (d.v : Int)] 79)))
          have HLA := Lib.hid (heap_alloc_new wr (.cells #[.int .i64 d.t, .int .u64 (d.v : Int)] 79))
          have hq1 := HRA.out.hq
          have hq2 := heap_lt HR.out.top
          have hq3 := HB.out.size
          have hq4 := HSA.out
          have hq5 := HB1.out.size
          have hq6 : wr.heap.size < (wr.alloc (.cells #[.int .i64 d.t, .int .u64 (d.v : Int)] 79)).heap.size := by simp
          have hq7 : B < wr.heap.size := heap_lt HR.out.rd.cells
          have HBA2 := Lib.hid (HB.out.alloc (by omega) (.cells #[.int .i64 d.t, .int .u64 (d.v : Int)] 79))
          have HOA := Lib.hid (HO.out.alloc (.cells #[.int .i64 d.t, .int .u64 (d.v : Int)] 79))
          generalize wr.alloc (.cells #[.int .i64 d.t, .int .u64 (d.v : Int)] 79) = wa at *
          obtain ⟨y0', y1', y2', y3', y4', y5', yz'⟩ := HRA.out.cell
          refine wp_region_held_drew (S := fun _ => True) (by kernel_rfl) trivial (fun hHeld => ?_)
          refine wpAnyH_take (i := 0) (oi := ⟨some 87, _, _, _, _, _⟩) (v := ?v1) rfl (by kernel_rfl) (by kernel_rfl) (by kernel_rfl) (fun _ _ _ h => h) (Or.inl ⟨by rfl, ?hy1⟩) (by assumption) ?_
          case hy1 => (intro w' hSw; (try dsimp only at hSw); go_simp <;> with_reducible rfl)
          try simp only [Act.put, List.setIfInBounds_toArray, List.set_cons_zero, List.set_cons_succ]
          refine wpAnyH_take (i := 1) (oi := ⟨some 88, _, _, _, _, _⟩) (v := ?v2) rfl (by kernel_rfl) (by kernel_rfl) (by kernel_rfl) (fun _ _ _ h => h) (Or.inl ⟨by rfl, ?hy2⟩) (by assumption) ?_
          case hy2 => (intro w' hSw; (try dsimp only at hSw); go_simp <;> with_reducible rfl)
          try simp only [Act.put, List.setIfInBounds_toArray, List.set_cons_zero, List.set_cons_succ]
          refine wpAnyH_take (i := 2) (oi := ⟨some 89, _, _, _, _, _⟩) (v := ?v3) rfl (by kernel_rfl) (by kernel_rfl) (by kernel_rfl) (fun _ _ _ h => h) (Or.inl ⟨by rfl, ?hy3⟩) (by assumption) ?_
          case hy3 => (intro w' hSw; (try dsimp only at hSw); go_simp <;> with_reducible rfl)
          try simp only [Act.put, List.setIfInBounds_toArray, List.set_cons_zero, List.set_cons_succ]
          refine wpAnyH_take (i := 4) (oi := ⟨some 91, _, _, _, _, _⟩) (v := ?v4) rfl (by kernel_rfl) (by kernel_rfl) (by kernel_rfl) (fun _ _ _ h => h) (Or.inl ⟨by rfl, ?hy4⟩) (by assumption) ?_
          case hy4 => (intro w' hSw; (try dsimp only at hSw); go_simp <;> with_reducible rfl)
          try simp only [Act.put, List.setIfInBounds_toArray, List.set_cons_zero, List.set_cons_succ]
          refine wpAnyH_ready (rs := [3, 5]) (by kernel_rfl) (by simp) ?_
          refine AllReadyH.cons (o := ⟨some 90, _, _, _, _, _⟩) rfl (fun K hK => ?_) (AllReadyH.cons (o := ⟨some 92, _, _, _, _, _⟩) rfl (fun K hK => ?_) AllReadyH.nil)
          · go_simp
            refine hK.out _ _ trivial (fun hHeld => ?_)
            clear hK K
            try simp only [Act.put, List.setIfInBounds_toArray, List.set_cons_zero, List.set_cons_succ]
            refine wpAnyH_ready (rs := [5]) (by kernel_rfl) (by simp) ?_
            refine AllReadyH.cons (o := ⟨some 92, _, _, _, _, _⟩) rfl (fun K hK => ?_) AllReadyH.nil
            go_simp
            go_at_call 97
            refine Calls.mono (by exact change_c (HRA.out.below (drew_b wa))) ?_
            rintro e wc ⟨xc, ac, bc, hxc, rfl, hrc, hgc, hpc⟩
            obtain ⟨z0, z1, z2, z3, z4, z5, zz'⟩ := hrc.cell
            have HRC := Lib.hid hrc
            have HGC := Lib.hid ((Ga.ofBelow (drew_b wa)).trans hgc (Anew.refl _ _))
            have HPC := Lib.hid hpc
            clear hrc hgc hpc
            refine hK.out _ _ trivial (fun hHeld => ?_)
            clear hK K
            try simp only [Act.put, List.setIfInBounds_toArray, List.set_cons_zero, List.set_cons_succ]
            obtain ⟨s2, hs2, hs2l⟩ : ∃ s2 : Nat, Hid (((d.step : Int) + (xc : Int)) % 18446744073709551616 = (s2 : Int)) ∧ s2 = (d.step + xc) % 18446744073709551616 := ⟨_, Lib.hid (by rw [Int.natCast_emod, Int.natCast_add]; rfl), rfl⟩
            have HS2W := Lib.hid (show IntKind.u64.wrap ((d.step : Int) + (xc : Int)) = (s2 : Int) by rw [IntKind.wrap_u64]; exact hs2.out)
            refine wpAnyH_take (i := 6) (oi := ⟨some 93, _, _, _, _, _⟩) (v := ?v5) rfl (by kernel_rfl) (by kernel_rfl) (by kernel_rfl) (fun _ _ _ h => h) (Or.inl ⟨by rfl, ?hy5⟩) (by assumption) ?_
            case hy5 => (intro w' hSw; (try dsimp only at hSw); go_simp <;> with_reducible rfl)
            try simp only [Act.put, List.setIfInBounds_toArray, List.set_cons_zero, List.set_cons_succ]
            refine wpAnyH_take (i := 7) (oi := ⟨some 94, _, _, _, _, _⟩) (v := ?v6) rfl (by kernel_rfl) (by kernel_rfl) (by kernel_rfl) (fun _ _ _ h => h) (Or.inl ⟨by rfl, ?hy6⟩) (by assumption) ?_
            case hy6 => (intro w' hSw; (try dsimp only at hSw); go_simp <;> with_reducible rfl)
            try simp only [Act.put, List.setIfInBounds_toArray, List.set_cons_zero, List.set_cons_succ]
            refine wpAnyH_take (i := 8) (oi := ⟨some 95, _, _, _, _, _⟩) (v := ?v7) rfl (by kernel_rfl) (by kernel_rfl) (by kernel_rfl) (fun _ _ _ h => h) (Or.inl ⟨by rfl, ?hy7⟩) (by assumption) ?_
            case hy7 => (intro w' hSw; (try dsimp only at hSw); go_simp <;> with_reducible rfl)
            try simp only [Act.put, List.setIfInBounds_toArray, List.set_cons_zero, List.set_cons_succ]
            refine wpAnyH_ready (rs := [9]) (by kernel_rfl) (by simp) ?_
            refine AllReadyH.cons (o := ⟨none, _, _, _, _, _⟩) rfl (fun K hK => ?_) AllReadyH.nil
            go_simp
            first | rw [HS2W.out] | rw [hs2.out]
            refine hK.out _ _ trivial (fun hHeld => ?_)
            clear hK K
            try simp only [Act.put, List.setIfInBounds_toArray, List.set_cons_zero, List.set_cons_succ]
            refine wpAnyH_done (by kernel_rfl) ?_ _
            have HHR := Lib.hid (HRC.out.set 2 (.int .u64 (s2 : Int)) (step' := s2) rfl)
            have HHG := Lib.hid (HGC.out.trans (Ga.setQ (w := wc) (Q := w1.heap.size) (B := B) 2 (.int .u64 (s2 : Int))) (Anew.refl _ _))
            have hs2k : s2 < 18446744073709551616 := by omega
            have HST := Lib.hid (show (bc = false ∧ Gz.stepD (Bt.unpack D) (j + 1) d = some (s2, ac)) ∨ (bc = true ∧ Gz.stepD (Bt.unpack D) (j + 1) d = none) by
              unfold Gz.stepD
              rw [if_neg (by omega)]
              rcases HPC.out with ⟨_, h2, h3⟩ | ⟨h1, h2⟩
              · exact .inl ⟨h3, by rw [h2, hs2l]; rfl⟩
              · refine .inr ⟨h1, ?_⟩
                rcases h2 with h2 | h2
                · cases h2
                · rw [h2]; rfl)
            clear HPC z0 z1 z2 z3 z4 z5 zz' hs2 hs2l
            generalize hwy : wc.setCell ⟨w1.heap.size, 2, none⟩ (.int .u64 (s2 : Int)) = wy at *
            clear hwy
            go_wp2_with fail
            obtain ⟨u0, u1, u2, u3, u4, u5, uz⟩ := HHR.out.cell
            have HLY := Lib.hid ((HHG.out.block wr.heap.size (heap_lt HLA.out) (by omega) (by omega) (by simp)).trans HLA.out)
            obtain ⟨l0, l1⟩ := box2 HLY.out
            have HBY := Lib.hid (HBA2.out.trans (HHG.out.below (C := w.heap.size + 1) (by omega) (by omega) (by omega) (by simp)))
            have hsy := HHG.out.size
            have hbq := own_block_ne2 HOA.out HRA.out.top (by decide)
            have hbb := own_block_ne2 HOA.out HRA.out.rd.cells (by decide)
            have HOY := Lib.hid (own_of_same HOA.out (fun k hk => HHG.out.block k (HOA.out.lt k hk).2 (fun e => hbq (hk.trans (by rw [e]))) (fun e => hbb (hk.trans (by rw [e]))) (by simp)))
            have HDK := Lib.hid hdk
            have ht13 := time_eq d.t s2 hdk.t
            obtain ⟨T, hT⟩ : ∃ T : Int, wrap64 (d.t + (s2 : Int)) = T := ⟨_, rfl⟩
            rw [hT] at ht13
            have HT := Lib.hid hT
            clear hT
            refine wp_region_held_drew (S := fun w' => w'.cell? ⟨wr.heap.size, 0, none⟩ = some (.int .i64 d.t) ∧ w'.cell? ⟨wr.heap.size, 1, none⟩ = some (.int .u64 (d.v : Int)) ∧ w'.cell? ⟨w1.heap.size, 2, none⟩ = some (.int .u64 (s2 : Int))) (by kernel_rfl) ⟨l0, l1, u2⟩ (fun hHeld => ?_)
            refine wpAnyH_take (i := 0) (oi := ⟨some 96, _, _, _, _, _⟩) (v := ?v8) rfl (by kernel_rfl) (by kernel_rfl) (by kernel_rfl) (fun _ _ _ h => h) (Or.inl ⟨by rfl, ?hy8⟩) (by assumption) ?_
            case hy8 => (intro w' hSw; (try dsimp only at hSw); go_simp <;> with_reducible rfl)
            try simp only [Act.put, List.setIfInBounds_toArray, List.set_cons_zero, List.set_cons_succ]
            refine wpAnyH_take (i := 1) (oi := ⟨some 97, _, _, _, _, _⟩) (v := ?v9) rfl (by kernel_rfl) (by kernel_rfl) (by kernel_rfl) (fun _ _ _ h => h) (Or.inl ⟨by rfl, ?hy9⟩) (by assumption) ?_
            case hy9 => (intro w' hSw; (try dsimp only at hSw); go_simp <;> with_reducible rfl)
            try simp only [Act.put, List.setIfInBounds_toArray, List.set_cons_zero, List.set_cons_succ]
            refine wpAnyH_take (i := 2) (oi := ⟨some 98, _, _, _, _, _⟩) (v := ?v10) rfl (by kernel_rfl) (by kernel_rfl) (by kernel_rfl) (fun _ _ _ h => h) (Or.inl ⟨by rfl, ?hy10⟩) (by assumption) ?_
            case hy10 => (intro w' hSw; (try dsimp only at hSw); go_simp <;> with_reducible rfl)
            try simp only [Act.put, List.setIfInBounds_toArray, List.set_cons_zero, List.set_cons_succ]
            refine wpAnyH_take (i := 3) (oi := ⟨some 99, _, _, _, _, _⟩) (v := ?v11) rfl (by kernel_rfl) (by kernel_rfl) (by kernel_rfl) (fun _ _ _ h => h) (Or.inl ⟨by rfl, ?hy11⟩) (by assumption) ?_
            case hy11 => (intro w' hSw; (try dsimp only at hSw); go_simp <;> with_reducible rfl)
            try simp only [Act.put, List.setIfInBounds_toArray, List.set_cons_zero, List.set_cons_succ]
            refine wpAnyH_take (i := 4) (oi := ⟨some 100, _, _, _, _, _⟩) (v := ?v12) rfl (by kernel_rfl) (by kernel_rfl) (by kernel_rfl) (fun _ _ _ h => h) (Or.inl ⟨by rfl, ?hy12⟩) (by assumption) ?_
            case hy12 => (intro w' hSw; (try dsimp only at hSw); go_simp <;> with_reducible rfl)
            try simp only [Act.put, List.setIfInBounds_toArray, List.set_cons_zero, List.set_cons_succ]
            refine wpAnyH_take (i := 5) (oi := ⟨some 101, _, _, _, _, _⟩) (v := ?v13) rfl (by kernel_rfl) (by kernel_rfl) (by kernel_rfl) (fun _ _ _ h => h) (Or.inl ⟨by rfl, ?hy13⟩) (by assumption) ?_
            case hy13 => (intro w' hSw; (try dsimp only at hSw); go_simp <;> with_reducible rfl)
            try simp only [Act.put, List.setIfInBounds_toArray, List.set_cons_zero, List.set_cons_succ]
            refine wpAnyH_take (i := 6) (oi := ⟨some 102, _, _, _, _, _⟩) (v := ?v14) rfl (by kernel_rfl) (by kernel_rfl) (by kernel_rfl) (fun _ _ _ h => h) (Or.inl ⟨by rfl, ?hy14⟩) (by assumption) ?_
            case hy14 => (intro w' hSw; (try dsimp only at hSw); go_simp <;> with_reducible rfl)
            try simp only [Act.put, List.setIfInBounds_toArray, List.set_cons_zero, List.set_cons_succ]
            refine wpAnyH_take (i := 7) (oi := ⟨some 103, _, _, _, _, _⟩) (v := ?v15) rfl (by kernel_rfl) (by kernel_rfl) (by kernel_rfl) (fun _ _ _ h => h) (Or.inl ⟨by rfl, ?hy15⟩) (by assumption) ?_
            case hy15 => (intro w' hSw; (try dsimp only at hSw); go_simp <;> with_reducible rfl)
            try simp only [Act.put, List.setIfInBounds_toArray, List.set_cons_zero, List.set_cons_succ]
            refine wpAnyH_take (i := 8) (oi := ⟨some 104, _, _, _, _, _⟩) (v := ?v16) rfl (by kernel_rfl) (by kernel_rfl) (by kernel_rfl) (fun _ _ _ h => h) (Or.inl ⟨by rfl, ?hy16⟩) (by assumption) ?_
            case hy16 => (intro w' hSw; (try dsimp only at hSw); go_simp <;> with_reducible rfl)
            try simp only [Act.put, List.setIfInBounds_toArray, List.set_cons_zero, List.set_cons_succ]
            refine wpAnyH_take (i := 9) (oi := ⟨some 105, _, _, _, _, _⟩) (v := ?v17) rfl (by kernel_rfl) (by kernel_rfl) (by kernel_rfl) (fun _ _ _ h => h) (Or.inl ⟨by rfl, ?hy17⟩) (by assumption) ?_
            case hy17 => (intro w' hSw; (try dsimp only at hSw); go_simp <;> with_reducible rfl)
            try simp only [Act.put, List.setIfInBounds_toArray, List.set_cons_zero, List.set_cons_succ]
            refine wpAnyH_take (i := 10) (oi := ⟨some 106, _, _, _, _, _⟩) (v := ?v18) rfl (by kernel_rfl) (by kernel_rfl) (by kernel_rfl) (fun _ _ _ h => h) (Or.inl ⟨by rfl, ?hy18⟩) (by assumption) ?_
            case hy18 => (intro w' hSw; (try dsimp only at hSw); go_simp <;> with_reducible rfl)
            try simp only [Act.put, List.setIfInBounds_toArray, List.set_cons_zero, List.set_cons_succ]
            refine wpAnyH_take (i := 11) (oi := ⟨some 107, _, _, _, _, _⟩) (v := ?v19) rfl (by kernel_rfl) (by kernel_rfl) (by kernel_rfl) (fun _ _ _ h => h) (Or.inl ⟨by rfl, ?hy19⟩) (by assumption) ?_
            case hy19 => (intro w' hSw; (try dsimp only at hSw); go_simp <;> with_reducible rfl)
            try simp only [Act.put, List.setIfInBounds_toArray, List.set_cons_zero, List.set_cons_succ]
            refine wpAnyH_take (i := 12) (oi := ⟨some 108, _, _, _, _, _⟩) (v := ?v20) rfl (by kernel_rfl) (by kernel_rfl) (by kernel_rfl) (fun _ _ _ h => h) (Or.inl ⟨by rfl, ?hy20⟩) (by assumption) ?_
            case hy20 => (intro w' hSw; (try dsimp only at hSw); go_simp <;> with_reducible rfl)
            try simp only [Act.put, List.setIfInBounds_toArray, List.set_cons_zero, List.set_cons_succ]
            refine wpAnyH_ready (rs := [13]) (by kernel_rfl) (by simp) ?_
            refine AllReadyH.cons (o := ⟨some 109, _, _, _, _, _⟩) rfl (fun K hK => ?_) AllReadyH.nil
            go_simp
            go_at_call 98
            refine Calls.mono (by exact number_c (HHR.out.below (drew_b wy)) (fun _ => ⟨d.win.1, d.win.2, rfl, rfl, HDK.out.win⟩)) ?_
            rintro e wn ⟨xn, cn, bn, wl', wr', hxn, rfl, hrn, hgn, hpn⟩
            have hxe : bits .xor .u64 (d.v : Int) (xn : Int) = ((d.v ^^^ xn : Nat) : Int) := bits_xor_u64_nat _ _ HDK.out.v hxn
            obtain ⟨X, hX⟩ : ∃ X : Nat, d.v ^^^ xn = X := ⟨_, rfl⟩
            have hXl : X < 18446744073709551616 := by rw [← hX]; exact Gz.xor_lt HDK.out.v hxn
            rw [hX] at hxe
            have HNX := Lib.hid hX
            clear hX
            have hgn2 := (Ga.ofBelow (drew_b wy)).trans hgn (Anew.refl _ _)
            have hlN := (hgn2.block wr.heap.size (heap_lt HLY.out) (by omega) (by omega) (by simp)).trans HLY.out
            obtain ⟨n0, n1⟩ := box2 hlN
            obtain ⟨-, -, n2, -, -, -, -⟩ := hrn.cell
            have HLN := Lib.hid hlN
            have HRN := Lib.hid hrn
            have HPN := Lib.hid hpn
            have HBN := Lib.hid (HBY.out.trans (hgn2.below (C := w.heap.size + 1) (by omega) (by omega) (by omega) (by simp)))
            have HON := Lib.hid (own_of_same HOY.out (fun k hk => hgn2.block k (HOY.out.lt k hk).2 (fun e => hbq (hk.trans (by rw [e]))) (fun e => hbb (hk.trans (by rw [e]))) (by simp)))
            have hsn := hgn2.size
            clear hlN hrn hgn hgn2 hpn
            refine hK.out _ _ ⟨n0, n1, n2⟩ (fun hHeld => ?_)
            clear hK K
            try simp only [Act.put, List.setIfInBounds_toArray, List.set_cons_zero, List.set_cons_succ]
            refine wpAnyH_take (i := 14) (oi := ⟨some 110, _, _, _, _, _⟩) (v := ?v21) rfl (by kernel_rfl) (by kernel_rfl) (by kernel_rfl) (fun _ _ _ h => h) (Or.inl ⟨by rfl, ?hy21⟩) (by assumption) ?_
            case hy21 => (intro w' hSw; (try dsimp only at hSw); go_simp <;> with_reducible rfl)
            try simp only [Act.put, List.setIfInBounds_toArray, List.set_cons_zero, List.set_cons_succ]
            try rw [hxe]
            refine wpAnyH_take (i := 15) (oi := ⟨some 111, _, _, _, _, _⟩) (v := ?v22) rfl (by kernel_rfl) (by kernel_rfl) (by kernel_rfl) (fun _ _ _ h => h) (Or.inl ⟨by rfl, ?hy22⟩) (by assumption) ?_
            case hy22 => (intro w' hSw; (try dsimp only at hSw); go_simp <;> with_reducible rfl)
            try simp only [Act.put, List.setIfInBounds_toArray, List.set_cons_zero, List.set_cons_succ]
            try rw [ht13]
            refine wpAnyH_ready (rs := [16]) (by kernel_rfl) (by simp) ?_
            refine AllReadyH.cons (o := ⟨some 112, _, _, _, _, _⟩) rfl (fun K hK => ?_) AllReadyH.nil
            go_simp
            refine hK.out _ _ ⟨cell_al n0, cell_al n1, cell_al n2⟩ (fun hHeld => ?_)
            clear hK K
            try simp only [Act.put, List.setIfInBounds_toArray, List.set_cons_zero, List.set_cons_succ]
            refine wpAnyH_ready (rs := [17]) (by kernel_rfl) (by simp) ?_
            refine AllReadyH.cons (o := ⟨some 113, _, _, _, _, _⟩) rfl (fun K hK => ?_) AllReadyH.nil
            refine step_append_lies _ rfl (.tmp 96) (.tmp 112) 22 rfl w1.heap.size 79 i0 (.agg #[.int .i64 0, .int .u64 0]) 2 16 Tryz.underlying22 hi0 hz0 hz1 hz2 rfl (by decide) (.slice (some ⟨bs, off, none⟩) (j + 1) cl) (j + 1) _ rfl (HON.out.alloc _) ⟨wn.heap.size, 0, none⟩ 1 1 [.int .i64 T, .int .u64 (X : Int)] rfl rfl (news_alloc wn [.int .i64 T, .int .u64 (X : Int)] 79) (by intro u hu; simp at hu; rcases hu with rfl | rfl <;> rfl) (by decide) (by unfold maxLen; omega) (by omega) (by simp; omega) _ rfl ?_
            intro g cg w6 hown6 hgr6 hat6 hlt6
            have hkl : ∀ k, (Value.slice (some ⟨bs, off, none⟩) (j + 1) cl).ownBlock = some k → w1.heap.size ≤ k ∧ k < wr.heap.size := fun k hk => ⟨(HO.out.lt k hk).1, (HO.out.lt k hk).2⟩
            have hb6 := (HBN.out.alloc (by omega) _).grown hgr6 (by simp; omega) (fun k hk => by have := hkl k hk; omega)
            have hL6 := (hgr6.block wr.heap.size (by simp; omega) (fun e => by have := hkl _ e.symm; omega)).trans ((Below.heap_alloc wn _ _ (by omega)).trans HLN.out)
            have hR6 := (HRN.out.below (al_b wn _)).grow hgr6 hbq hbb (fun k hk => by have := hkl k hk; have := HRN.out.hq; omega)
            obtain ⟨p0, p1⟩ := box2 hL6
            obtain ⟨-, -, p2, -, -, -, -⟩ := hR6.cell
            have HO6 := Lib.hid hown6
            have HB6 := Lib.hid hb6
            have HR6 := Lib.hid hR6
            clear hown6 hgr6 hat6 hb6 hL6 hR6
            refine hK.out _ _ ⟨p0, p1, p2⟩ (fun hHeld => ?_)
            clear hK K
            try simp only [Act.put, List.setIfInBounds_toArray, List.set_cons_zero, List.set_cons_succ]
            refine wpAnyH_take (i := 18) (oi := ⟨some 7, _, _, _, _, _⟩) (v := ?v23) rfl (by kernel_rfl) (by kernel_rfl) (by kernel_rfl) (fun _ _ _ h => h) (Or.inl ⟨by rfl, ?hy23⟩) (by assumption) ?_
            case hy23 => (intro w' hSw; (try dsimp only at hSw); go_simp <;> with_reducible rfl)
            try simp only [Act.put, List.setIfInBounds_toArray, List.set_cons_zero, List.set_cons_succ]
            refine wpAnyH_done (by kernel_rfl) ?_ _
            clear p0 p1 p2 l0 l1 u0 u1 u2 u3 u4 u5 uz n0 n1 n2
            go_wp2_with fail
            refine ⟨⟨j + 1 + 1, ls ++ [⟨T, X⟩], ⟨by rw [smCs_snoc]; exact HO6.out, by simp [hlm], by omega, by omega, fun s hs => ?_, bn, cn, s2, wl', wr', by omega, HR6.out, ?_⟩, HB6.out⟩, by simp [lenOf]; omega⟩
            · rcases List.mem_append.1 hs with hs | hs
              · exact HFT.out s hs
              · simp at hs; subst hs; exact ⟨by rw [← HT.out]; exact time_in _, hXl⟩
            · rw [← HT.out, ← HNX.out]; exact lp_state hd hmN2 HST.out HPN.out
          · go_simp
            go_at_call 97
            refine Calls.mono (by exact change_c (HRA.out.below (drew_b wa))) ?_
            rintro e wc ⟨xc, ac, bc, hxc, rfl, hrc, hgc, hpc⟩
            obtain ⟨z0, z1, z2, z3, z4, z5, zz'⟩ := hrc.cell
            have HRC := Lib.hid hrc
            have HGC := Lib.hid ((Ga.ofBelow (drew_b wa)).trans hgc (Anew.refl _ _))
            have HPC := Lib.hid hpc
            clear hrc hgc hpc
            refine hK.out _ _ trivial (fun hHeld => ?_)
            clear hK K
            try simp only [Act.put, List.setIfInBounds_toArray, List.set_cons_zero, List.set_cons_succ]
            refine wpAnyH_ready (rs := [3]) (by kernel_rfl) (by simp) ?_
            refine AllReadyH.cons (o := ⟨some 90, _, _, _, _, _⟩) rfl (fun K hK => ?_) AllReadyH.nil
            go_simp
            refine hK.out _ _ trivial (fun hHeld => ?_)
            clear hK K
            try simp only [Act.put, List.setIfInBounds_toArray, List.set_cons_zero, List.set_cons_succ]
            obtain ⟨s2, hs2, hs2l⟩ : ∃ s2 : Nat, Hid (((d.step : Int) + (xc : Int)) % 18446744073709551616 = (s2 : Int)) ∧ s2 = (d.step + xc) % 18446744073709551616 := ⟨_, Lib.hid (by rw [Int.natCast_emod, Int.natCast_add]; rfl), rfl⟩
            have HS2W := Lib.hid (show IntKind.u64.wrap ((d.step : Int) + (xc : Int)) = (s2 : Int) by rw [IntKind.wrap_u64]; exact hs2.out)
            refine wpAnyH_take (i := 6) (oi := ⟨some 93, _, _, _, _, _⟩) (v := ?v24) rfl (by kernel_rfl) (by kernel_rfl) (by kernel_rfl) (fun _ _ _ h => h) (Or.inl ⟨by rfl, ?hy24⟩) (by assumption) ?_
            case hy24 => (intro w' hSw; (try dsimp only at hSw); go_simp <;> with_reducible rfl)
            try simp only [Act.put, List.setIfInBounds_toArray, List.set_cons_zero, List.set_cons_succ]
            refine wpAnyH_take (i := 7) (oi := ⟨some 94, _, _, _, _, _⟩) (v := ?v25) rfl (by kernel_rfl) (by kernel_rfl) (by kernel_rfl) (fun _ _ _ h => h) (Or.inl ⟨by rfl, ?hy25⟩) (by assumption) ?_
            case hy25 => (intro w' hSw; (try dsimp only at hSw); go_simp <;> with_reducible rfl)
            try simp only [Act.put, List.setIfInBounds_toArray, List.set_cons_zero, List.set_cons_succ]
            refine wpAnyH_take (i := 8) (oi := ⟨some 95, _, _, _, _, _⟩) (v := ?v26) rfl (by kernel_rfl) (by kernel_rfl) (by kernel_rfl) (fun _ _ _ h => h) (Or.inl ⟨by rfl, ?hy26⟩) (by assumption) ?_
            case hy26 => (intro w' hSw; (try dsimp only at hSw); go_simp <;> with_reducible rfl)
            try simp only [Act.put, List.setIfInBounds_toArray, List.set_cons_zero, List.set_cons_succ]
            refine wpAnyH_ready (rs := [9]) (by kernel_rfl) (by simp) ?_
            refine AllReadyH.cons (o := ⟨none, _, _, _, _, _⟩) rfl (fun K hK => ?_) AllReadyH.nil
            go_simp
            first | rw [HS2W.out] | rw [hs2.out]
            refine hK.out _ _ trivial (fun hHeld => ?_)
            clear hK K
            try simp only [Act.put, List.setIfInBounds_toArray, List.set_cons_zero, List.set_cons_succ]
            refine wpAnyH_done (by kernel_rfl) ?_ _
            have HHR := Lib.hid (HRC.out.set 2 (.int .u64 (s2 : Int)) (step' := s2) rfl)
            have HHG := Lib.hid (HGC.out.trans (Ga.setQ (w := wc) (Q := w1.heap.size) (B := B) 2 (.int .u64 (s2 : Int))) (Anew.refl _ _))
            have hs2k : s2 < 18446744073709551616 := by omega
            have HST := Lib.hid (show (bc = false ∧ Gz.stepD (Bt.unpack D) (j + 1) d = some (s2, ac)) ∨ (bc = true ∧ Gz.stepD (Bt.unpack D) (j + 1) d = none) by
              unfold Gz.stepD
              rw [if_neg (by omega)]
              rcases HPC.out with ⟨_, h2, h3⟩ | ⟨h1, h2⟩
              · exact .inl ⟨h3, by rw [h2, hs2l]; rfl⟩
              · refine .inr ⟨h1, ?_⟩
                rcases h2 with h2 | h2
                · cases h2
                · rw [h2]; rfl)
            clear HPC z0 z1 z2 z3 z4 z5 zz' hs2 hs2l
            generalize hwy : wc.setCell ⟨w1.heap.size, 2, none⟩ (.int .u64 (s2 : Int)) = wy at *
            clear hwy
            go_wp2_with fail
            obtain ⟨u0, u1, u2, u3, u4, u5, uz⟩ := HHR.out.cell
            have HLY := Lib.hid ((HHG.out.block wr.heap.size (heap_lt HLA.out) (by omega) (by omega) (by simp)).trans HLA.out)
            obtain ⟨l0, l1⟩ := box2 HLY.out
            have HBY := Lib.hid (HBA2.out.trans (HHG.out.below (C := w.heap.size + 1) (by omega) (by omega) (by omega) (by simp)))
            have hsy := HHG.out.size
            have hbq := own_block_ne2 HOA.out HRA.out.top (by decide)
            have hbb := own_block_ne2 HOA.out HRA.out.rd.cells (by decide)
            have HOY := Lib.hid (own_of_same HOA.out (fun k hk => HHG.out.block k (HOA.out.lt k hk).2 (fun e => hbq (hk.trans (by rw [e]))) (fun e => hbb (hk.trans (by rw [e]))) (by simp)))
            have HDK := Lib.hid hdk
            have ht13 := time_eq d.t s2 hdk.t
            obtain ⟨T, hT⟩ : ∃ T : Int, wrap64 (d.t + (s2 : Int)) = T := ⟨_, rfl⟩
            rw [hT] at ht13
            have HT := Lib.hid hT
            clear hT
            refine wp_region_held_drew (S := fun w' => w'.cell? ⟨wr.heap.size, 0, none⟩ = some (.int .i64 d.t) ∧ w'.cell? ⟨wr.heap.size, 1, none⟩ = some (.int .u64 (d.v : Int)) ∧ w'.cell? ⟨w1.heap.size, 2, none⟩ = some (.int .u64 (s2 : Int))) (by kernel_rfl) ⟨l0, l1, u2⟩ (fun hHeld => ?_)
            refine wpAnyH_take (i := 0) (oi := ⟨some 96, _, _, _, _, _⟩) (v := ?v27) rfl (by kernel_rfl) (by kernel_rfl) (by kernel_rfl) (fun _ _ _ h => h) (Or.inl ⟨by rfl, ?hy27⟩) (by assumption) ?_
            case hy27 => (intro w' hSw; (try dsimp only at hSw); go_simp <;> with_reducible rfl)
            try simp only [Act.put, List.setIfInBounds_toArray, List.set_cons_zero, List.set_cons_succ]
            refine wpAnyH_take (i := 1) (oi := ⟨some 97, _, _, _, _, _⟩) (v := ?v28) rfl (by kernel_rfl) (by kernel_rfl) (by kernel_rfl) (fun _ _ _ h => h) (Or.inl ⟨by rfl, ?hy28⟩) (by assumption) ?_
            case hy28 => (intro w' hSw; (try dsimp only at hSw); go_simp <;> with_reducible rfl)
            try simp only [Act.put, List.setIfInBounds_toArray, List.set_cons_zero, List.set_cons_succ]
            refine wpAnyH_take (i := 2) (oi := ⟨some 98, _, _, _, _, _⟩) (v := ?v29) rfl (by kernel_rfl) (by kernel_rfl) (by kernel_rfl) (fun _ _ _ h => h) (Or.inl ⟨by rfl, ?hy29⟩) (by assumption) ?_
            case hy29 => (intro w' hSw; (try dsimp only at hSw); go_simp <;> with_reducible rfl)
            try simp only [Act.put, List.setIfInBounds_toArray, List.set_cons_zero, List.set_cons_succ]
            refine wpAnyH_take (i := 3) (oi := ⟨some 99, _, _, _, _, _⟩) (v := ?v30) rfl (by kernel_rfl) (by kernel_rfl) (by kernel_rfl) (fun _ _ _ h => h) (Or.inl ⟨by rfl, ?hy30⟩) (by assumption) ?_
            case hy30 => (intro w' hSw; (try dsimp only at hSw); go_simp <;> with_reducible rfl)
            try simp only [Act.put, List.setIfInBounds_toArray, List.set_cons_zero, List.set_cons_succ]
            refine wpAnyH_take (i := 4) (oi := ⟨some 100, _, _, _, _, _⟩) (v := ?v31) rfl (by kernel_rfl) (by kernel_rfl) (by kernel_rfl) (fun _ _ _ h => h) (Or.inl ⟨by rfl, ?hy31⟩) (by assumption) ?_
            case hy31 => (intro w' hSw; (try dsimp only at hSw); go_simp <;> with_reducible rfl)
            try simp only [Act.put, List.setIfInBounds_toArray, List.set_cons_zero, List.set_cons_succ]
            refine wpAnyH_take (i := 5) (oi := ⟨some 101, _, _, _, _, _⟩) (v := ?v32) rfl (by kernel_rfl) (by kernel_rfl) (by kernel_rfl) (fun _ _ _ h => h) (Or.inl ⟨by rfl, ?hy32⟩) (by assumption) ?_
            case hy32 => (intro w' hSw; (try dsimp only at hSw); go_simp <;> with_reducible rfl)
            try simp only [Act.put, List.setIfInBounds_toArray, List.set_cons_zero, List.set_cons_succ]
            refine wpAnyH_take (i := 6) (oi := ⟨some 102, _, _, _, _, _⟩) (v := ?v33) rfl (by kernel_rfl) (by kernel_rfl) (by kernel_rfl) (fun _ _ _ h => h) (Or.inl ⟨by rfl, ?hy33⟩) (by assumption) ?_
            case hy33 => (intro w' hSw; (try dsimp only at hSw); go_simp <;> with_reducible rfl)
            try simp only [Act.put, List.setIfInBounds_toArray, List.set_cons_zero, List.set_cons_succ]
            refine wpAnyH_take (i := 7) (oi := ⟨some 103, _, _, _, _, _⟩) (v := ?v34) rfl (by kernel_rfl) (by kernel_rfl) (by kernel_rfl) (fun _ _ _ h => h) (Or.inl ⟨by rfl, ?hy34⟩) (by assumption) ?_
            case hy34 => (intro w' hSw; (try dsimp only at hSw); go_simp <;> with_reducible rfl)
            try simp only [Act.put, List.setIfInBounds_toArray, List.set_cons_zero, List.set_cons_succ]
            refine wpAnyH_take (i := 8) (oi := ⟨some 104, _, _, _, _, _⟩) (v := ?v35) rfl (by kernel_rfl) (by kernel_rfl) (by kernel_rfl) (fun _ _ _ h => h) (Or.inl ⟨by rfl, ?hy35⟩) (by assumption) ?_
            case hy35 => (intro w' hSw; (try dsimp only at hSw); go_simp <;> with_reducible rfl)
            try simp only [Act.put, List.setIfInBounds_toArray, List.set_cons_zero, List.set_cons_succ]
            refine wpAnyH_take (i := 9) (oi := ⟨some 105, _, _, _, _, _⟩) (v := ?v36) rfl (by kernel_rfl) (by kernel_rfl) (by kernel_rfl) (fun _ _ _ h => h) (Or.inl ⟨by rfl, ?hy36⟩) (by assumption) ?_
            case hy36 => (intro w' hSw; (try dsimp only at hSw); go_simp <;> with_reducible rfl)
            try simp only [Act.put, List.setIfInBounds_toArray, List.set_cons_zero, List.set_cons_succ]
            refine wpAnyH_take (i := 10) (oi := ⟨some 106, _, _, _, _, _⟩) (v := ?v37) rfl (by kernel_rfl) (by kernel_rfl) (by kernel_rfl) (fun _ _ _ h => h) (Or.inl ⟨by rfl, ?hy37⟩) (by assumption) ?_
            case hy37 => (intro w' hSw; (try dsimp only at hSw); go_simp <;> with_reducible rfl)
            try simp only [Act.put, List.setIfInBounds_toArray, List.set_cons_zero, List.set_cons_succ]
            refine wpAnyH_take (i := 11) (oi := ⟨some 107, _, _, _, _, _⟩) (v := ?v38) rfl (by kernel_rfl) (by kernel_rfl) (by kernel_rfl) (fun _ _ _ h => h) (Or.inl ⟨by rfl, ?hy38⟩) (by assumption) ?_
            case hy38 => (intro w' hSw; (try dsimp only at hSw); go_simp <;> with_reducible rfl)
            try simp only [Act.put, List.setIfInBounds_toArray, List.set_cons_zero, List.set_cons_succ]
            refine wpAnyH_take (i := 12) (oi := ⟨some 108, _, _, _, _, _⟩) (v := ?v39) rfl (by kernel_rfl) (by kernel_rfl) (by kernel_rfl) (fun _ _ _ h => h) (Or.inl ⟨by rfl, ?hy39⟩) (by assumption) ?_
            case hy39 => (intro w' hSw; (try dsimp only at hSw); go_simp <;> with_reducible rfl)
            try simp only [Act.put, List.setIfInBounds_toArray, List.set_cons_zero, List.set_cons_succ]
            refine wpAnyH_ready (rs := [13]) (by kernel_rfl) (by simp) ?_
            refine AllReadyH.cons (o := ⟨some 109, _, _, _, _, _⟩) rfl (fun K hK => ?_) AllReadyH.nil
            go_simp
            go_at_call 98
            refine Calls.mono (by exact number_c (HHR.out.below (drew_b wy)) (fun _ => ⟨d.win.1, d.win.2, rfl, rfl, HDK.out.win⟩)) ?_
            rintro e wn ⟨xn, cn, bn, wl', wr', hxn, rfl, hrn, hgn, hpn⟩
            have hxe : bits .xor .u64 (d.v : Int) (xn : Int) = ((d.v ^^^ xn : Nat) : Int) := bits_xor_u64_nat _ _ HDK.out.v hxn
            obtain ⟨X, hX⟩ : ∃ X : Nat, d.v ^^^ xn = X := ⟨_, rfl⟩
            have hXl : X < 18446744073709551616 := by rw [← hX]; exact Gz.xor_lt HDK.out.v hxn
            rw [hX] at hxe
            have HNX := Lib.hid hX
            clear hX
            have hgn2 := (Ga.ofBelow (drew_b wy)).trans hgn (Anew.refl _ _)
            have hlN := (hgn2.block wr.heap.size (heap_lt HLY.out) (by omega) (by omega) (by simp)).trans HLY.out
            obtain ⟨n0, n1⟩ := box2 hlN
            obtain ⟨-, -, n2, -, -, -, -⟩ := hrn.cell
            have HLN := Lib.hid hlN
            have HRN := Lib.hid hrn
            have HPN := Lib.hid hpn
            have HBN := Lib.hid (HBY.out.trans (hgn2.below (C := w.heap.size + 1) (by omega) (by omega) (by omega) (by simp)))
            have HON := Lib.hid (own_of_same HOY.out (fun k hk => hgn2.block k (HOY.out.lt k hk).2 (fun e => hbq (hk.trans (by rw [e]))) (fun e => hbb (hk.trans (by rw [e]))) (by simp)))
            have hsn := hgn2.size
            clear hlN hrn hgn hgn2 hpn
            refine hK.out _ _ ⟨n0, n1, n2⟩ (fun hHeld => ?_)
            clear hK K
            try simp only [Act.put, List.setIfInBounds_toArray, List.set_cons_zero, List.set_cons_succ]
            refine wpAnyH_take (i := 14) (oi := ⟨some 110, _, _, _, _, _⟩) (v := ?v40) rfl (by kernel_rfl) (by kernel_rfl) (by kernel_rfl) (fun _ _ _ h => h) (Or.inl ⟨by rfl, ?hy40⟩) (by assumption) ?_
            case hy40 => (intro w' hSw; (try dsimp only at hSw); go_simp <;> with_reducible rfl)
            try simp only [Act.put, List.setIfInBounds_toArray, List.set_cons_zero, List.set_cons_succ]
            try rw [hxe]
            refine wpAnyH_take (i := 15) (oi := ⟨some 111, _, _, _, _, _⟩) (v := ?v41) rfl (by kernel_rfl) (by kernel_rfl) (by kernel_rfl) (fun _ _ _ h => h) (Or.inl ⟨by rfl, ?hy41⟩) (by assumption) ?_
            case hy41 => (intro w' hSw; (try dsimp only at hSw); go_simp <;> with_reducible rfl)
            try simp only [Act.put, List.setIfInBounds_toArray, List.set_cons_zero, List.set_cons_succ]
            try rw [ht13]
            refine wpAnyH_ready (rs := [16]) (by kernel_rfl) (by simp) ?_
            refine AllReadyH.cons (o := ⟨some 112, _, _, _, _, _⟩) rfl (fun K hK => ?_) AllReadyH.nil
            go_simp
            refine hK.out _ _ ⟨cell_al n0, cell_al n1, cell_al n2⟩ (fun hHeld => ?_)
            clear hK K
            try simp only [Act.put, List.setIfInBounds_toArray, List.set_cons_zero, List.set_cons_succ]
            refine wpAnyH_ready (rs := [17]) (by kernel_rfl) (by simp) ?_
            refine AllReadyH.cons (o := ⟨some 113, _, _, _, _, _⟩) rfl (fun K hK => ?_) AllReadyH.nil
            refine step_append_lies _ rfl (.tmp 96) (.tmp 112) 22 rfl w1.heap.size 79 i0 (.agg #[.int .i64 0, .int .u64 0]) 2 16 Tryz.underlying22 hi0 hz0 hz1 hz2 rfl (by decide) (.slice (some ⟨bs, off, none⟩) (j + 1) cl) (j + 1) _ rfl (HON.out.alloc _) ⟨wn.heap.size, 0, none⟩ 1 1 [.int .i64 T, .int .u64 (X : Int)] rfl rfl (news_alloc wn [.int .i64 T, .int .u64 (X : Int)] 79) (by intro u hu; simp at hu; rcases hu with rfl | rfl <;> rfl) (by decide) (by unfold maxLen; omega) (by omega) (by simp; omega) _ rfl ?_
            intro g cg w6 hown6 hgr6 hat6 hlt6
            have hkl : ∀ k, (Value.slice (some ⟨bs, off, none⟩) (j + 1) cl).ownBlock = some k → w1.heap.size ≤ k ∧ k < wr.heap.size := fun k hk => ⟨(HO.out.lt k hk).1, (HO.out.lt k hk).2⟩
            have hb6 := (HBN.out.alloc (by omega) _).grown hgr6 (by simp; omega) (fun k hk => by have := hkl k hk; omega)
            have hL6 := (hgr6.block wr.heap.size (by simp; omega) (fun e => by have := hkl _ e.symm; omega)).trans ((Below.heap_alloc wn _ _ (by omega)).trans HLN.out)
            have hR6 := (HRN.out.below (al_b wn _)).grow hgr6 hbq hbb (fun k hk => by have := hkl k hk; have := HRN.out.hq; omega)
            obtain ⟨p0, p1⟩ := box2 hL6
            obtain ⟨-, -, p2, -, -, -, -⟩ := hR6.cell
            have HO6 := Lib.hid hown6
            have HB6 := Lib.hid hb6
            have HR6 := Lib.hid hR6
            clear hown6 hgr6 hat6 hb6 hL6 hR6
            refine hK.out _ _ ⟨p0, p1, p2⟩ (fun hHeld => ?_)
            clear hK K
            try simp only [Act.put, List.setIfInBounds_toArray, List.set_cons_zero, List.set_cons_succ]
            refine wpAnyH_take (i := 18) (oi := ⟨some 7, _, _, _, _, _⟩) (v := ?v42) rfl (by kernel_rfl) (by kernel_rfl) (by kernel_rfl) (fun _ _ _ h => h) (Or.inl ⟨by rfl, ?hy42⟩) (by assumption) ?_
            case hy42 => (intro w' hSw; (try dsimp only at hSw); go_simp <;> with_reducible rfl)
            try simp only [Act.put, List.setIfInBounds_toArray, List.set_cons_zero, List.set_cons_succ]
            refine wpAnyH_done (by kernel_rfl) ?_ _
            clear p0 p1 p2 l0 l1 u0 u1 u2 u3 u4 u5 uz n0 n1 n2
            go_wp2_with fail
            refine ⟨⟨j + 1 + 1, ls ++ [⟨T, X⟩], ⟨by rw [smCs_snoc]; exact HO6.out, by simp [hlm], by omega, by omega, fun s hs => ?_, bn, cn, s2, wl', wr', by omega, HR6.out, ?_⟩, HB6.out⟩, by simp [lenOf]; omega⟩
            · rcases List.mem_append.1 hs with hs | hs
              · exact HFT.out s hs
              · simp at hs; subst hs; exact ⟨by rw [← HT.out]; exact time_in _, hXl⟩
            · rw [← HT.out, ← HNX.out]; exact lp_state hd hmN2 HST.out HPN.out
      · obtain rfl : N = (m : Int) := by omega
        have gm : decide ((m : Int) < (m : Int)) = false := decide_eq_false (by omega)
        go_wp2_with fail
        refine (gnew_any wr).mono ?_
        rintro e w6 ⟨rfl, ha6, hb6⟩
        obtain ⟨wq, rfl⟩ : ∃ wq, wq = wr := ⟨wr, rfl⟩
        have hsW := HB.out.size
        have hlb : 1 < w.heap.size := block_lt_of_cell (hT 0 (by omega))
        have hq1 : 1 < wq.heap.size := by have := HSA.out; omega
        have hq2 : w.heap.size + 1 ≤ wq.heap.size := by have := HSA.out; omega
        have HTQ := Lib.hid (show TabW wq from (hT.below HBA.out hlb).below HB.out (by omega))
        obtain ⟨as', cs', hsv, hsms⟩ := Sms.owns (l := ls) (by rw [hlm]; exact HO.out) (by unfold maxLen; omega) HFT.out
        rw [hlm] at hsv
        injection hsv with q1 q2 q3
        subst q1 q3
        have HSM := Lib.hid hsms
        have HA6 := Lib.hid ha6
        have HB6 := Lib.hid hb6
        clear ha6 hb6 hsms
        go_wp2_with fail
        go_loopw [121] (fun i wx => ∃ (k : Nat) (r : Option Nat), k ≤ m ∧ i = .int .i64 k ∧ Gz.Fine (ls.take k) ∧ Apm wx (wq.heap.size + 1) wq.heap.size r (Gz.Ap.all (ls.take k)) ∧ (∀ q, r = some q → wq.heap.size ≤ q) ∧ Below wq.heap.size wq wx) (fun i _ => m - (intOf i).toNat)
        case atStart => exact ⟨0, none, Nat.zero_le _, rfl, ⟨fun s hs => (by simp at hs), fun i a b h => (by simp at h), by simp⟩, HA6.out, (fun q hq => by cases hq), HB6.out⟩
        case round =>
          obtain ⟨k, r, hk, rfl, hfk, hap, hrr, hbx⟩ := hrel
          have HAP := Lib.hid hap
          have HBY := Lib.hid hbx
          have HFK := Lib.hid hfk
          have HRR := Lib.hid hrr
          clear hap hbx hfk hrr HA6 HB6
          by_cases h1 : k < m
          · obtain ⟨bs, off, hal, hbs, hcell⟩ := (HSM.out.below HBY.out (Nat.le_refl _)).cells (by intro e; subst e; simp at hlm; omega)
            subst hal
            have x0 := (hcell k (by omega)).c0
            have x1 := (hcell k (by omega)).c1
            have hv := (hcell k (by omega)).v
            have i1 : (0 : Int) ≤ (k : Int) ∧ (k : Int) < (m : Int) := by omega
            have htk : ls.take (k + 1) = ls.take k ++ [ls[k]'(by omega)] := List.take_succ_eq_append_getElem (by omega)
            obtain ⟨p1, p2⟩ := app_fine (s := ls[k]'(by omega)) HFK.out (by simp; omega) hv
            rw [← htk] at p1 p2
            have HP1 := Lib.hid p1
            have HP2 := Lib.hid p2
            clear p1 p2 htk hcell
            generalize ls[k]'(by omega) = s at *
            generalize hEE : ((Gz.Ap.all (ls.take k)).app s).2 = E at *
            have hEE := Lib.hid hEE
            go_wp2_with fail
            refine Calls.mono (by exact app_any (HAP.out.below (al_b wr _)) (Gz.all_ok HFK.out) s hv ((HTQ.out.below HBY.out (by omega)).below (al_b wr _) (by have := HBY.out.size; omega)) (by omega) (by omega) (fun e => by have := HRR.out 1 e; omega)) ?_
            rintro e w7 ⟨rfl, r7, ha7, hg7, hn7⟩
            rw [hEE.out]
            have hszx := HBY.out.size
            have hb7 := hg7.below (C := wq.heap.size) (by simp; omega) (by omega) (Nat.le_refl _) HRR.out
            have HB7 := Lib.hid ((HBY.out.alloc hszx _).trans hb7)
            by_cases hE0 : E = 0
            · have gE : (E != 0) = false := by simp [hE0]
              obtain ⟨hf', ha'⟩ := HP1.out hE0
              rw [ha'] at ha7
              have HA7 := Lib.hid ha7
              have HR7 := Lib.hid (show ∀ q, r7 = some q → wq.heap.size ≤ q from fun q hq => by
                rcases hn7 q hq with h6 | h6
                · exact HRR.out q h6
                · simp at h6; omega)
              clear hg7 hn7 ha7 hb7 x0 x1
              go_wp2_with fail
              exact ⟨⟨k + 1, r7, by omega, by push_cast; rfl, hf', HA7.out, HR7.out, HB7.out⟩, by simp [intOf]; omega⟩
            · have gE : (E != 0) = true := by simpa using hE0
              have hnf := HP2.out hE0
              clear hg7 hn7 ha7 hb7 x0 x1
              go_wp2_with fail
              go_ret2
              refine GrPost.no rfl ?_ ((HBA.out.trans (HB.out.mono (by omega))).trans (HB7.out.mono (by omega)))
              rintro ⟨ls', _, _, d', hd', hf', _⟩
              rw [show ((m : Int).toNat - 1) = m - 1 by omega, hd] at hd'
              injection hd' with hd'
              injection hd' with _ hd'
              subst hd'
              exact hnf (fine_take hf' _)
          · obtain rfl : k = m := by omega
            have htk : ls.take k = ls := List.take_of_length_le (by omega)
            have hap := HAP.out
            have hfl := HFK.out
            rw [htk] at hap hfl
            obtain ⟨q1, q2, q3⟩ := Gz.all_has _ ls rfl hfl
            go_wp2_with fail
            refine Calls.mono (by exact chunk_any hap q1 (by omega)) ?_
            rintro e w8 ⟨v8, rfl, ho8, hb8⟩
            unfold chV
            obtain ⟨a8, c8, rfl⟩ := own_slice ho8
            have HO8 := Lib.hid ho8
            have HB8 := Lib.hid (HBY.out.trans (hb8.mono HBY.out.size))
            have HFL := Lib.hid hfl
            clear ho8 hb8 hap hfl HAP HFK
            generalize hF1 : (Gz.Ap.all ls).first = F1 at *
            generalize hT1 : (Gz.Ap.all ls).t = T1 at *
            generalize hD1 : Bt.pack (Gz.Ap.all ls).L = D1 at *
            obtain ⟨w9, hW9⟩ : ∃ w9, w8.alloc (.cells #[.int .i64 F1, .int .i64 T1, .int .i64 (k : Int), .slice a8 D1.length c8] 26) = w9 := ⟨_, rfl⟩
            have hb9 : Below w8.heap.size w8 w9 := by rw [← hW9]; exact (Below.refl _ _).alloc (Nat.le_refl _) _
            have hx9 : w9.heap[w8.heap.size]? = some (.cells #[.int .i64 F1, .int .i64 T1, .int .i64 (k : Int), .slice a8 D1.length c8] 26 (0, 0)) := by rw [← hW9]; exact heap_alloc_new w8 _
            have hs8 := HB8.out.size
            have hb89 : Below wq.heap.size wq w9 := HB8.out.trans (hb9.mono hs8)
            have hy9 := (hb89.block w.heap.size (by omega)).trans ((HB.out.block w.heap.size (by omega)).trans HBX.out)
            obtain ⟨m0, m1, m2, m3, mz⟩ := box4 hx9
            obtain ⟨n0, n1, n2, n3, nz⟩ := box4 hy9
            have HBW := Lib.hid ((HBA.out.trans (HB.out.mono (by omega))).trans (hb89.mono (by omega)))
            have HO9 := Lib.hid (own_of_same HO.out (fun q hq => hb89.block q (HO.out.lt q hq).2))
            have hDl : D1.length ≤ 140737488355328 := by
              have h1 := q1.len
              have h2 := q1.n
              have h3 := Bt.pack_len (Gz.Ap.all ls).L
              rw [hD1] at h3
              omega
            have HS1 := Lib.hid (((Sl.owns HO8.out hDl).below hb9 (Nat.le_refl _)).mono (Nat.zero_le _) (Nat.le_refl _))
            have HS2 := Lib.hid ((HU.out.below HB.out (by omega)).below hb89 (by omega))
            have hnot : ∀ ls', RdOk F T (k : Int) D ls' → ls' = ls ∧ F1 = F ∧ T1 = T ∧ D1 = D := by
              rintro ls' ⟨_, _, d', hd', _, e1, e2, e3⟩
              rw [show ((k : Int).toNat - 1) = k - 1 by omega, hd] at hd'
              injection hd' with hd'
              injection hd' with _ hd'
              subst hd'
              exact ⟨rfl, hF1.symm.trans e1, hT1.symm.trans e2, hD1.symm.trans e3⟩
            have HN := Lib.hid hnot
            clear hb9 hx9 hy9 hb89 hnot HO8 HB8 htk
            by_cases hF : F1 = F
            · subst hF
              by_cases hTT : T1 = T
              · subst hTT
                go_wp2_with fail
                refine Calls.mono (by exact equal_any 0 w8.heap.size lo hi w9 (.slice a8 D1.length c8) u D1 D HS1.out HS2.out) ?_
                rintro e wz ⟨rfl, hwz⟩
                subst hwz
                by_cases hDD : D1 = D
                · have hs : sameB D1 D = true := by unfold sameB; exact decide_eq_true hDD
                  rw [hs]
                  go_wp2_with fail
                  go_ret2
                  refine ⟨⟨true, ls, _, rfl, by rw [hlm]; exact own_low HO9.out (by have := HB1.out.size; have := HSA.out; omega), HFT.out, by omega, .inl ⟨rfl, by omega, by omega, d, ?_, HFL.out, hF1, hT1, hD1.trans hDD⟩⟩, HBW.out⟩
                  rw [show ((k : Int).toNat - 1) = k - 1 by omega]
                  exact hd
                · have hs : sameB D1 D = false := by unfold sameB; exact decide_eq_false hDD
                  rw [hs]
                  go_wp2_with fail
                  go_ret2
                  exact ⟨⟨false, ls, _, rfl, by rw [hlm]; exact own_low HO9.out (by have := HB1.out.size; have := HSA.out; omega), HFT.out, by omega, .inr ⟨rfl, (fun ⟨ls', h⟩ => hDD (HN.out ls' h).2.2.2)⟩⟩, HBW.out⟩
              · have gT : (T1 == T) = false := by simpa using hTT
                go_wp2_with fail
                go_ret2
                exact ⟨⟨false, ls, _, rfl, by rw [hlm]; exact own_low HO9.out (by have := HB1.out.size; have := HSA.out; omega), HFT.out, by omega, .inr ⟨rfl, (fun ⟨ls', h⟩ => hTT (HN.out ls' h).2.2.1)⟩⟩, HBW.out⟩
            · have gF : (F1 == F) = false := by simpa using hF
              go_wp2_with fail
              go_ret2
              exact ⟨⟨false, ls, _, rfl, by rw [hlm]; exact own_low HO9.out (by have := HB1.out.size; have := HSA.out; omega), HFT.out, by omega, .inr ⟨rfl, (fun ⟨ls', h⟩ => hF (HN.out ls' h).2.1)⟩⟩, HBW.out⟩
end Go.Proofs.YtepjpdhmjchakaaGreatDoor
