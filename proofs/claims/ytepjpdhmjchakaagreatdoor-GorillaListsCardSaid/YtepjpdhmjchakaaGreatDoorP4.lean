import Derived.Test.YtepjpdhmjchakaaGreatDoorP3
import Derived.Defers
import Derived.Recover
import Derived.Outline
import Derived.RegionTactic
import Derived.BigRegion
/- The program's bit reader: Varint, which defers. -/
namespace Go.Proofs.YtepjpdhmjchakaaGreatDoor
open Go.RowKit

theorem restore_ok (u : FrameMode) (w : World) (E V R A : Nat) (h : w.cell? ⟨E, 0, none⟩ = some (.int .u16 0)) :
    CallsD Tryz.prog 104 #[.pointer (some ⟨E, 0, none⟩), .pointer (some ⟨A, 0, none⟩), .pointer (some ⟨R, 0, none⟩), .pointer (some ⟨V, 0, none⟩)] u w fun e u' w' => u' = u ∧ (e = .returned (.tuple #[]) ∧ w' = w) := by
  go_enter_d Tryz.func104, Tryz.ntmps104
  go_wp2
  go_end0
  exact ⟨rfl, rfl⟩

theorem restore_bad (u : FrameMode) (w : World) (E V R A B : Nat) (err was : Int) (x y : Value) (he : (err != 0) = true) (h : w.cell? ⟨E, 0, none⟩ = some (.int .u16 err)) (hr : w.cell? ⟨R, 0, none⟩ = some (.pointer (some ⟨B, 0, none⟩)))
    (ha : w.cell? ⟨A, 0, none⟩ = some (.int .i64 was)) (hv : w.cell? ⟨V, 0, none⟩ = some x) (hb : w.cell? ⟨B, 1, none⟩ = some y) (z1 : w.frozen? ⟨B, 1, none⟩ = false) (z2 : w.frozen? ⟨V, 0, none⟩ = false) :
    CallsD Tryz.prog 104 #[.pointer (some ⟨E, 0, none⟩), .pointer (some ⟨A, 0, none⟩), .pointer (some ⟨R, 0, none⟩), .pointer (some ⟨V, 0, none⟩)] u w fun e u' w' => u' = u ∧ (e = .returned (.tuple #[]) ∧ w' = (w.setCell ⟨B, 1, none⟩ (.int .i64 was)).setCell ⟨V, 0, none⟩ (.int .u64 0)) := by
  go_enter_d Tryz.func104, Tryz.ntmps104
  go_wp2
  go_end0
  exact ⟨rfl, rfl⟩

/-- The world within Varint: its four boxes, the rest as it was. -/
structure Vs (w W : World) (B at_ acc : Nat) (err : Int) : Prop where
  h0 : W.heap[w.heap.size]? = some (.cells #[.pointer (some ⟨B, 0, none⟩)] 229 (0, 0))
  h1 : W.heap[w.heap.size + 1]? = some (.cells #[.int .u64 acc] 76 (0, 0))
  h2 : W.heap[w.heap.size + 1 + 1]? = some (.cells #[.int .u16 err] 30 (0, 0))
  h3 : W.heap[w.heap.size + 1 + 1 + 1]? = some (.cells #[.int .i64 at_] 3 (0, 0))
  gro : Gro B none w W
  size : w.heap.size + 4 ≤ W.heap.size

theorem one_cell {w : World} {B : Nat} {a : Value} {t : TypeId} (h : w.heap[B]? = some (.cells #[a] t (0, 0))) : w.cell? ⟨B, 0, none⟩ = some a ∧ w.frozen? ⟨B, 0, none⟩ = false :=
  ⟨by rw [cell_of_row _ _ _ _ _ _ h]; rfl, frozen_of_row _ _ _ _ _ h⟩

theorem alloc_at (w : World) (o : Obj) (n : Nat) (h : w.heap.size = n) : (w.alloc o).heap[n]? = some o := by subst h; exact heap_alloc_new w o
theorem alloc_old (w : World) (o : Obj) (n k : Nat) (x : Option Obj) (h : w.heap.size = n) (hk : k < n) (hx : w.heap[k]? = x) : (w.alloc o).heap[k]? = x := by rw [Below.heap_alloc _ _ _ (by omega)]; exact hx

theorem Vs.start (w : World) (B at_ : Nat) :
    Vs w ((((w.alloc (.cells #[.pointer (some ⟨B, 0, none⟩)] 229)).alloc (.cells #[.int .u64 0] 76)).alloc (.cells #[.int .u16 0] 30)).alloc (.cells #[.int .i64 at_] 3)) B at_ 0 0 ∧
    Below w.heap.size w ((((w.alloc (.cells #[.pointer (some ⟨B, 0, none⟩)] 229)).alloc (.cells #[.int .u64 0] 76)).alloc (.cells #[.int .u16 0] 30)).alloc (.cells #[.int .i64 at_] 3)) := by
  have s1 := World.size_alloc w (.cells #[.pointer (some ⟨B, 0, none⟩)] 229)
  have s2 := World.size_alloc (w.alloc (.cells #[.pointer (some ⟨B, 0, none⟩)] 229)) (.cells #[.int .u64 0] 76)
  have s3 := World.size_alloc ((w.alloc (.cells #[.pointer (some ⟨B, 0, none⟩)] 229)).alloc (.cells #[.int .u64 0] 76)) (.cells #[.int .u16 0] 30)
  have s4 := World.size_alloc (((w.alloc (.cells #[.pointer (some ⟨B, 0, none⟩)] 229)).alloc (.cells #[.int .u64 0] 76)).alloc (.cells #[.int .u16 0] 30)) (.cells #[.int .i64 at_] 3)
  rw [s1] at s2
  rw [s2] at s3
  rw [s3] at s4
  have hb : Below w.heap.size w ((((w.alloc (.cells #[.pointer (some ⟨B, 0, none⟩)] 229)).alloc (.cells #[.int .u64 0] 76)).alloc (.cells #[.int .u16 0] 30)).alloc (.cells #[.int .i64 at_] 3)) :=
    (((((Below.refl _ _).alloc (Nat.le_refl _) _).alloc (by omega) _).alloc (by omega) _).alloc (by omega) _)
  exact ⟨⟨alloc_old _ _ _ _ _ s3 (by omega) (alloc_old _ _ _ _ _ s2 (by omega) (alloc_old _ _ _ _ _ s1 (by omega) (alloc_at _ _ _ rfl))),
    alloc_old _ _ _ _ _ s3 (by omega) (alloc_old _ _ _ _ _ s2 (by omega) (alloc_at _ _ _ s1)), alloc_old _ _ _ _ _ s3 (by omega) (alloc_at _ _ _ s2), alloc_at _ _ _ s3,
    ⟨hb.os, hb.tape, hb.output, hb.size, fun k hk _ _ => hb.block k hk⟩, by omega⟩, hb⟩

theorem Vs.gros {w W W' : World} {B at_ acc : Nat} {err : Int} (h : Vs w W B at_ acc err) (g : Gro B none W W') (hB : B < w.heap.size) : Vs w W' B at_ acc err := by
  have hs := h.size
  refine ⟨?_, ?_, ?_, ?_, h.gro.trans g (Anew.refl _ _), by have := g.size; omega⟩
  · rw [g.block _ (by omega) (by omega) (by simp)]; exact h.h0
  · rw [g.block _ (by omega) (by omega) (by simp)]; exact h.h1
  · rw [g.block _ (by omega) (by omega) (by simp)]; exact h.h2
  · rw [g.block _ (by omega) (by omega) (by simp)]; exact h.h3

theorem Vs.set {w W : World} {B at_ acc acc' : Nat} {err err' : Int} (h : Vs w W B at_ acc err) :
    Vs w ((W.setCell ⟨w.heap.size + 1, 0, none⟩ (.int .u64 (acc' : Int))).setCell ⟨w.heap.size + 1 + 1, 0, none⟩ (.int .u16 err')) B at_ acc' err' := by
  refine ⟨?_, ?_, ?_, ?_, ?_, by simpa using h.size⟩
  · rw [heap_setCell_other _ _ _ _ (by simp; omega), heap_setCell_other _ _ _ _ (by simp)]; exact h.h0
  · rw [heap_setCell_other _ _ _ _ (by simp), heap_setCell_same _ _ _ _ _ _ h.h1]; rfl
  · rw [heap_setCell_same _ _ _ _ _ _ (by rw [heap_setCell_other _ _ _ _ (by simp)]; exact h.h2)]; rfl
  · rw [heap_setCell_other _ _ _ _ (by simp), heap_setCell_other _ _ _ _ (by simp; omega)]; exact h.h3
  · refine ⟨h.gro.os, h.gro.tape, h.gro.output, by simpa using h.gro.size, fun k hk h1 h2 => ?_⟩
    rw [heap_setCell_other _ _ _ _ (by simp; omega), heap_setCell_other _ _ _ _ (by simp; omega)]; exact h.gro.block k hk h1 h2
theorem Vs.set1 {w W : World} {B at_ acc acc' : Nat} {err : Int} (h : Vs w W B at_ acc err) :
    Vs w (W.setCell ⟨w.heap.size + 1, 0, none⟩ (.int .u64 (acc' : Int))) B at_ acc' err := by
  refine ⟨?_, ?_, ?_, ?_, ?_, by simpa using h.size⟩
  · rw [heap_setCell_other _ _ _ _ (by simp)]; exact h.h0
  · rw [heap_setCell_same _ _ _ _ _ _ h.h1]; rfl
  · rw [heap_setCell_other _ _ _ _ (by simp)]; exact h.h2
  · rw [heap_setCell_other _ _ _ _ (by simp; omega)]; exact h.h3
  · refine ⟨h.gro.os, h.gro.tape, h.gro.output, by simpa using h.gro.size, fun k hk h1 h2 => ?_⟩
    rw [heap_setCell_other _ _ _ _ (by simp; omega)]; exact h.gro.block k hk h1 h2
theorem Rd.set {W : World} {B a' lo hi b o : Nat} {v u : Value} {l : List UInt8} (h : Rd W B v a' l lo hi) (h1 : b ≠ B) (h2 : hi ≤ b) : Rd (W.setCell ⟨b, o, none⟩ u) B v a' l lo hi :=
  ⟨by rw [heap_setCell_other _ _ _ _ (Ne.symm h1)]; exact h.cells, h.data.same (fun k _ hk => heap_setCell_other _ _ _ _ (by simp; omega)), h.apart, h.le⟩
theorem Rd.drewN {W : World} {B a' lo hi : Nat} {v : Value} {l : List UInt8} (h : Rd W B v a' l lo hi) (m : Nat) : Rd (W.drewN m) B v a' l lo hi :=
  ⟨h.cells, h.data.same (fun _ _ _ => rfl), h.apart, h.le⟩
theorem Rd.drew {W : World} {B a' lo hi : Nat} {v : Value} {l : List UInt8} (h : Rd W B v a' l lo hi) : Rd W.drew B v a' l lo hi :=
  ⟨h.cells, h.data.same (fun _ _ _ => rfl), h.apart, h.le⟩
theorem Vs.drewN {w W : World} {B at_ acc : Nat} {err : Int} (h : Vs w W B at_ acc err) (m : Nat) : Vs w (W.drewN m) B at_ acc err :=
  ⟨h.h0, h.h1, h.h2, h.h3, ⟨h.gro.os, h.gro.tape, h.gro.output, h.gro.size, h.gro.block⟩, h.size⟩
theorem Vs.drew {w W : World} {B at_ acc : Nat} {err : Int} (h : Vs w W B at_ acc err) : Vs w W.drew B at_ acc err :=
  ⟨h.h0, h.h1, h.h2, h.h3, ⟨h.gro.os, h.gro.tape, h.gro.output, h.gro.size, h.gro.block⟩, h.size⟩

theorem door_bad (u : FrameMode) (w W : World) (B at_ acc a' lo hi : Nat) (err : Int) (v : Value) (l : List UInt8) (he : (err != 0) = true) (h : Vs w W B at_ acc err) (hr : Rd W B v a' l lo hi) (hB : B < w.heap.size) (hhi : hi ≤ w.heap.size) (hat : at_ ≤ 8 * l.length) :
    CallsD Tryz.prog 104 #[.pointer (some ⟨w.heap.size + 1 + 1, 0, none⟩), .pointer (some ⟨w.heap.size + 1 + 1 + 1, 0, none⟩), .pointer (some ⟨w.heap.size, 0, none⟩), .pointer (some ⟨w.heap.size + 1, 0, none⟩)] u W
      fun e u' w' => u' = u ∧ e = .returned (.tuple #[]) ∧ Vs w w' B at_ 0 err ∧ Rd w' B v at_ l lo hi := by
  obtain ⟨d0, d1, dz⟩ := two_cells hr.cells
  refine (restore_bad u W _ _ _ _ B err at_ _ _ he (one_cell h.h2).1 (one_cell h.h0).1 (one_cell h.h3).1 (one_cell h.h1).1 d1 (dz 1) (one_cell h.h1).2).mono ?_
  rintro e u' w' ⟨rfl, rfl, rfl⟩
  refine ⟨rfl, rfl, ?_, ?_⟩
  · refine Vs.set1 (acc := acc) ⟨?_, ?_, ?_, ?_, ?_, by simpa using h.size⟩
    · rw [heap_setCell_other _ _ _ _ (by simp; omega)]; exact h.h0
    · rw [heap_setCell_other _ _ _ _ (by simp; omega)]; exact h.h1
    · rw [heap_setCell_other _ _ _ _ (by simp; omega)]; exact h.h2
    · rw [heap_setCell_other _ _ _ _ (by simp; omega)]; exact h.h3
    · refine ⟨h.gro.os, h.gro.tape, h.gro.output, by simpa using h.gro.size, fun k hk h1 h2 => ?_⟩
      rw [heap_setCell_other _ _ _ _ h1]; exact h.gro.block k hk h1 h2
  · refine Rd.set ⟨?_, ?_, hr.apart, hat⟩ (by omega) (by omega)
    · rw [heap_setCell_same _ _ _ _ _ _ hr.cells]; rfl
    · exact hr.data.same (fun k h1 h2 => heap_setCell_other _ _ _ _ (by have := hr.apart; simp; omega))

theorem and127 (v : Nat) : bits .and .u64 (v : Int) 127 = ((v % 128 : Nat) : Int) := by
  show IntKind.u64.wrap ((BitVec.ofInt 64 (v : Int) &&& BitVec.ofInt 64 (127 : Int)).toNat : Int) = _
  have e3 : (BitVec.ofInt 64 (127 : Int)).toNat = 2 ^ 7 - 1 := by decide
  rw [BitVec.ofInt_natCast, BitVec.toNat_and, BitVec.toNat_ofNat, e3, Nat.and_two_pow_sub_one_eq_mod, Nat.mod_mod_of_dvd _ (by decide : 2 ^ 7 ∣ 2 ^ 64), IntWalk.u64_in]
  have := Nat.mod_lt v (show 0 < 2 ^ 7 by omega)
  omega

set_option maxRecDepth 100000 in
theorem or_septet (acc g k : Nat) (hacc : acc < 128 ^ k) (hk : k < 9 ∨ (k = 9 ∧ g ≤ 1)) :
    bits .or .u64 (acc : Int) (IntKind.u64.wrap ((g : Int) % 128 * 2 ^ (7 * k))) = ((acc + g % 128 * 128 ^ k : Nat) : Int) ∧ acc + g % 128 * 128 ^ k < 128 ^ (k + 1) := by
  have hp : (128 : Nat) ^ k = 2 ^ (7 * k) := by rw [Nat.pow_mul]
  have hm : g % 128 < 128 := Nat.mod_lt _ (by omega)
  have hlt : g % 128 * 2 ^ (7 * k) + 2 ^ (7 * k) ≤ 2 ^ 64 := by
    rcases hk with hk | ⟨rfl, hg⟩
    · have h1 : 2 ^ (7 * k) ≤ 2 ^ 56 := Nat.pow_le_pow_right (by omega) (by omega)
      have h2 : g % 128 * 2 ^ (7 * k) ≤ 127 * 2 ^ 56 := Nat.mul_le_mul (by omega) h1
      omega
    · have : g % 128 ≤ 1 := by omega
      have h2 : g % 128 * 2 ^ (7 * 9) ≤ 1 * 2 ^ (7 * 9) := Nat.mul_le_mul_right _ this
      exact Nat.le_trans (Nat.add_le_add_right h2 _) (by decide)
  rw [hp] at hacc ⊢
  have hpos : 0 < 2 ^ (7 * k) := Nat.two_pow_pos _
  have e2 : IntKind.u64.wrap ((g : Int) % 128 * 2 ^ (7 * k)) = ((2 ^ (7 * k) * (g % 128) : Nat) : Int) := by
    rw [show ((g : Int) % 128 * 2 ^ (7 * k)) = ((2 ^ (7 * k) * (g % 128) : Nat) : Int) from by push_cast; rw [Int.mul_comm]]
    exact IntWalk.u64_in _ (by rw [Nat.mul_comm]; omega)
  refine ⟨?_, ?_⟩
  · rw [e2]
    show IntKind.u64.wrap ((BitVec.ofInt 64 (acc : Int) ||| BitVec.ofInt 64 ((2 ^ (7 * k) * (g % 128) : Nat) : Int)).toNat : Int) = _
    have h3 : 2 ^ (7 * k) * (g % 128) < 2 ^ 64 := by rw [Nat.mul_comm]; omega
    rw [BitVec.ofInt_natCast, BitVec.ofInt_natCast, BitVec.toNat_or, BitVec.toNat_ofNat, BitVec.toNat_ofNat, Nat.mod_eq_of_lt (by omega), Nat.mod_eq_of_lt h3,
      Nat.or_comm, ← Nat.two_pow_add_eq_or_of_lt hacc, IntWalk.u64_in _ (by rw [Nat.mul_comm]; omega), Nat.mul_comm, Nat.add_comm]
  · rw [show (128 : Nat) ^ (k + 1) = 128 * 2 ^ (7 * k) from by rw [Nat.pow_succ, hp, Nat.mul_comm]]
    have : g % 128 * 2 ^ (7 * k) ≤ 127 * 2 ^ (7 * k) := Nat.mul_le_mul (by omega) (Nat.le_refl _)
    omega

/-- What Varint comes to. -/
def RvPost (w : World) (B at_ lo hi : Nat) (v : Value) (l : List UInt8) : Nat ⊕ (Nat × Nat) → Ending → World → Prop
  | .inl er, e, w' => e = .returned (.tuple #[.int .u64 0, .int .u16 (er : Int)]) ∧ Rd w' B v at_ l lo hi ∧ Gro B none w w'
  | .inr (x, a'), e, w' => e = .returned (.tuple #[.int .u64 (x : Int), .int .u16 0]) ∧ Rd w' B v a' l lo hi ∧ Gro B none w w'

/-- What Varint's end reads out of its boxes. -/
theorem var_results {w W : World} {B at_ acc : Nat} {err : Int} (h : Vs w W B at_ acc err) (tmps : Array Value) (h2 : tmps.getD 2 undef = .pointer (some ⟨w.heap.size + 1, 0, none⟩)) (h3 : tmps.getD 3 undef = .pointer (some ⟨w.heap.size + 1 + 1, 0, none⟩)) :
    (results Tryz.f96 tmps).run Tryz.prog W = .ok (.tuple #[.int .u64 (acc : Int), .int .u16 err]) W := by
  have q1 := (one_cell h.h1).1
  have q2 := (one_cell h.h2).1
  have h2' : tmps[2]?.getD undef = .pointer (some ⟨w.heap.size + 1, 0, none⟩) := by simpa using h2
  have h3' : tmps[3]?.getD undef = .pointer (some ⟨w.heap.size + 1 + 1, 0, none⟩) := by simpa using h3
  simp [results, Tryz.results96, go_sem, h2', h3', q1, q2]

set_option maxRecDepth 100000 in
theorem rvarint_any (lo hi : Nat) (w : World) (B at_ : Nat) (v : Value) (l : List UInt8) (h : Rd w B v at_ l lo hi) (hhi : hi ≤ w.heap.size) :
    Calls Tryz.prog 96 #[.pointer (some ⟨B, 0, none⟩)] w (RvPost w B at_ lo hi v l (Bt.rv (Bt.unpack l) at_)) := by
  have HH := Lib.hid h
  obtain ⟨c0, c1, cz⟩ := two_cells h.cells
  have hmf : ∀ (fn : Fn) (first cap : Array Value) (w : World), (Instr.makeFunc fn first cap).run Tryz.prog w = .ok (.func fn first cap) w := fun _ _ _ _ => rfl
  have hBl : B < w.heap.size := block_lt_of_cell c0
  have d1 : ∀ o1 o2 o3, (((w.alloc o1).alloc o2).alloc o3).cell? ⟨B, 1, none⟩ = some (.int .i64 (at_ : Int)) := fun o1 o2 o3 => by
    rw [World.cell?_of_block (w := w)]
    · exact c1
    · rw [Below.heap_alloc _ _ _ (by rw [World.size_alloc, World.size_alloc]; exact Nat.lt_of_lt_of_le hBl (by omega)), Below.heap_alloc _ _ _ (by rw [World.size_alloc]; exact Nat.lt_succ_of_lt hBl), Below.heap_alloc _ _ _ hBl]
  have hst := Vs.start w B at_
  clear h
  go_enter_defers Tryz.func96, Tryz.ntmps96
  go_wp2_with fail
  revert hst
  generalize ((((w.alloc _).alloc _).alloc _).alloc _) = W
  intro hst
  clear d1 c0 c1 cz
  go_loopw [5] (fun i wr => ∃ k acc a' : Nat, i = .int .i64 k ∧ k ≤ 9 ∧ acc < 128 ^ k ∧ Vs w wr B at_ acc 0 ∧ Rd wr B v a' l lo hi ∧ Bt.rvg (Bt.unpack l) (10 - k) k a' acc = Bt.rv (Bt.unpack l) at_) (fun i _ => 10 - (intOf i).toNat)
  case atStart => exact ⟨0, 0, at_, rfl, by omega, by omega, hst.1, ⟨by rw [hst.2.block _ hBl]; exact HH.out.cells, HH.out.data.below hst.2 hhi, HH.out.apart, HH.out.le⟩, rfl⟩
  case round =>
    obtain ⟨k, acc, a', rfl, hk, hacc, hvs, hrd, hrv⟩ := hrel
    have HRV := Lib.hid hrv
    have HVS := Lib.hid hvs
    have HRD := Lib.hid hrd
    have HA := Lib.hid hacc
    clear hrv hacc hrd
    obtain ⟨q0, y0⟩ := one_cell hvs.h0
    obtain ⟨q1, y1⟩ := one_cell hvs.h1
    obtain ⟨q2, y2⟩ := one_cell hvs.h2
    obtain ⟨q3, y3⟩ := one_cell hvs.h3
    clear hvs
    have ek : 10 - k = (9 - k) + 1 := by omega
    by_cases hshort : 8 * l.length < a' + 8
    · have hres : Bt.rv (Bt.unpack l) at_ = .inl 20 := by
        rw [← HRV.out, ek, Bt.rvg, if_pos (by rw [Bt.unpack_len]; exact hshort)]
      have HRES := Lib.hid hres
      clear hres ek
      go_wp2_with (go_at_call 103; refine (rbits_short lo hi _ B a' 8 v l HRD.out (by omega) hshort).mono ?_; rintro e w1 ⟨rfl, m, rfl⟩)

      refine leaves_cons (f := 104) (args := #[.pointer (some ⟨w.heap.size + 1 + 1, 0, none⟩), .pointer (some ⟨w.heap.size + 1 + 1 + 1, 0, none⟩), .pointer (some ⟨w.heap.size, 0, none⟩), .pointer (some ⟨w.heap.size + 1, 0, none⟩)]) (by simp) (by simp [go_sem]) ?_
      refine (door_bad _ w _ B at_ 0 a' lo hi 20 v l rfl (HVS.out.drewN m).set (((HRD.out.drewN m).set (by omega) (by omega)).set (by omega) (by omega)) hBl hhi HH.out.le).mono ?_
      rintro e u' w'' ⟨rfl, rfl, hv2, hr2⟩
      refine ⟨_, var_results hv2 _ rfl rfl, ?_⟩
      rw [HRES.out]
      exact ⟨rfl, hr2, hv2.gro⟩
    · have hU : ¬ (Bt.unpack l).length < a' + 8 := by rw [Bt.unpack_len]; exact hshort
      obtain ⟨g, hg⟩ : ∃ g, g = Bt.val (((Bt.unpack l).drop a').take 8) := ⟨_, rfl⟩
      have hgl : g < 256 := by
        have h1 := Bt.val_lt (((Bt.unpack l).drop a').take 8)
        have h2 : (((Bt.unpack l).drop a').take 8).length ≤ 8 := List.length_take_le _ _
        have h3 : 2 ^ (((Bt.unpack l).drop a').take 8).length ≤ 2 ^ 8 := Nat.pow_le_pow_right (by omega) h2
        omega
      have hstep : Bt.rv (Bt.unpack l) at_ = if k = 9 ∧ 1 < g then .inl 21 else if g < 128 then (if 0 < k ∧ g = 0 then .inl 21 else .inr (acc + g % 128 * 128 ^ k, a' + 8))
          else Bt.rvg (Bt.unpack l) (9 - k) (k + 1) (a' + 8) (acc + g % 128 * 128 ^ k) := by
        rw [← HRV.out, ek, Bt.rvg, if_neg hU, ← hg]
      have HST := Lib.hid hstep
      have hcall := rbits_any lo hi wr B a' 8 v l HRD.out (by omega) (by omega)
      rw [← hg] at hcall
      have HC := Lib.hid hcall
      clear hstep ek hU hg hcall HRV
      by_cases h9 : k = 9 ∧ 1 < g
      · rw [if_pos h9] at HST
        obtain ⟨rfl, hg1⟩ := h9
        go_wp2_with (go_at_call 103; refine HC.out.mono ?_; rintro e w1 ⟨rfl, hr1, hg1'⟩; have V1 := HVS.out.gros hg1' hBl; obtain ⟨p0, x0⟩ := one_cell V1.h0; obtain ⟨p1, x1⟩ := one_cell V1.h1; obtain ⟨p2, x2⟩ := one_cell V1.h2; have HV1 := Lib.hid V1; have HR1 := Lib.hid hr1; clear V1 hr1 hg1')
        refine leaves_cons (f := 104) (args := #[.pointer (some ⟨w.heap.size + 1 + 1, 0, none⟩), .pointer (some ⟨w.heap.size + 1 + 1 + 1, 0, none⟩), .pointer (some ⟨w.heap.size, 0, none⟩), .pointer (some ⟨w.heap.size + 1, 0, none⟩)]) (by simp) (by simp [go_sem]) ?_
        refine (door_bad _ w _ B at_ 0 _ lo hi 21 v l rfl HV1.out.set ((HR1.out.set (by omega) (by omega)).set (by omega) (by omega)) hBl hhi HH.out.le).mono ?_
        rintro e u' w'' ⟨rfl, rfl, hv2, hr2⟩
        refine ⟨_, var_results hv2 _ rfl rfl, ?_⟩
        rw [HST.out]
        exact ⟨rfl, hr2, hv2.gro⟩
      · rw [if_neg h9] at HST
        have hk9 : ((((k : Int) == 9) = true ∧ k = 9) ∧ g ≤ 1) ∨ (((k : Int) == 9) = false ∧ k < 9) := by
          by_cases e : k = 9
          · left; exact ⟨⟨by simp [e], e⟩, by omega⟩
          · right; exact ⟨by simp; omega, by omega⟩
        have e1 := and127 g
        obtain ⟨e3, e4⟩ := or_septet acc g k HA.out (by omega)
        generalize acc + g % 128 * 128 ^ k = acc2 at *
        have E4 := Lib.hid e4
        clear h9 e4
        have hgc : (g < 128 ∧ (0 < k ∧ g = 0)) ∨ (g < 128 ∧ ¬ (0 < k ∧ g = 0)) ∨ (¬ g < 128 ∧ k < 9) := by omega
        rcases hgc with ⟨hg2, hg3⟩ | ⟨hg2, hg3⟩ | ⟨hg2, hk8⟩
        · rw [if_pos hg2, if_pos hg3] at HST
          obtain ⟨hg4, hg5⟩ := hg3
          have hg6 : ((g : Int) == 0) = true := by simp [hg5]
          clear hg5
          rcases hk9 with ⟨⟨hk9, hkk⟩, hg1⟩ | ⟨hk9, hkk⟩
          all_goals
            clear hkk
            go_wp2_with (go_at_call 103; refine HC.out.mono ?_; rintro e w1 ⟨rfl, hr1, hg1'⟩; have V1 := HVS.out.gros hg1' hBl; obtain ⟨p0, x0⟩ := one_cell V1.h0; obtain ⟨p1, x1⟩ := one_cell V1.h1; obtain ⟨p2, x2⟩ := one_cell V1.h2; have HV1 := Lib.hid V1; have HR1 := Lib.hid hr1; clear V1 hr1 hg1')
            go_region
            go_wp2
            refine leaves_cons (f := 104) (args := #[.pointer (some ⟨w.heap.size + 1 + 1, 0, none⟩), .pointer (some ⟨w.heap.size + 1 + 1 + 1, 0, none⟩), .pointer (some ⟨w.heap.size, 0, none⟩), .pointer (some ⟨w.heap.size + 1, 0, none⟩)]) (by simp) (by simp [go_sem]) ?_
            refine (door_bad _ w _ B at_ 0 _ lo hi 21 v l rfl (HV1.out.set1.set).drew ((((HR1.out.set (by omega) (by omega)).set (by omega) (by omega)).set (by omega) (by omega)).drew) hBl hhi HH.out.le).mono ?_
            rintro e u' w'' ⟨rfl, rfl, hv2, hr2⟩
            refine ⟨_, var_results hv2 _ rfl rfl, ?_⟩
            rw [HST.out]
            exact ⟨rfl, hr2, hv2.gro⟩
        · rw [if_pos hg2, if_neg hg3] at HST
          have hg4 : (((k : Int) == 9) = true ∧ 0 < k ∧ g ≠ 0 ∧ g ≤ 1) ∨ (((k : Int) == 9) = false ∧ 0 < k ∧ g ≠ 0) ∨ (((k : Int) == 9) = false ∧ k = 0) := by
            rcases hk9 with ⟨⟨h1, h2⟩, h3⟩ | ⟨h1, h2⟩
            · exact Or.inl ⟨h1, by omega, by omega, by omega⟩
            · by_cases h0 : k = 0
              · exact Or.inr (Or.inr ⟨h1, h0⟩)
              · exact Or.inr (Or.inl ⟨h1, by omega, by omega⟩)
          clear hk9
          have hg7 : (((k : Int) == 9) = true ∧ 0 < k ∧ g ≠ 0 ∧ g ≤ 1) ∨ (((k : Int) == 9) = false ∧ 0 < k ∧ g ≠ 0) ∨ (((k : Int) == 9) = false ∧ k = 0 ∧ bits .or .u64 (acc : Int) ((g : Int) % 128) = (acc2 : Int)) := by
            rcases hg4 with h | h | ⟨h1, h2⟩
            · exact Or.inl h
            · exact Or.inr (Or.inl h)
            · refine Or.inr (Or.inr ⟨h1, h2, ?_⟩)
              subst h2
              rw [← e3, show ((g : Int) % 128 * 2 ^ (7 * 0)) = ((g % 128 : Nat) : Int) from by simp, IntWalk.u64_in _ (by omega)]
              rfl
          clear hg4
          rcases hg7 with ⟨hk9, hg4, hg5, hg6⟩ | ⟨hk9, hg4, hg5⟩ | ⟨hk9, hg4, hg5⟩
          all_goals
              go_wp2_with (go_at_call 103; refine HC.out.mono ?_; rintro e w1 ⟨rfl, hr1, hg1'⟩; have V1 := HVS.out.gros hg1' hBl; obtain ⟨p0, x0⟩ := one_cell V1.h0; obtain ⟨p1, x1⟩ := one_cell V1.h1; obtain ⟨p2, x2⟩ := one_cell V1.h2; have HV1 := Lib.hid V1; have HR1 := Lib.hid hr1; clear V1 hr1 hg1')
              go_region
              go_wp2
              have V2 := ((HV1.out.set1 (acc' := acc2)).set (acc' := acc2) (err' := 0)).drew
              refine leaves_cons (f := 104) (args := #[.pointer (some ⟨w.heap.size + 1 + 1, 0, none⟩), .pointer (some ⟨w.heap.size + 1 + 1 + 1, 0, none⟩), .pointer (some ⟨w.heap.size, 0, none⟩), .pointer (some ⟨w.heap.size + 1, 0, none⟩)]) (by simp) (by simp [go_sem]) ?_
              refine (restore_ok _ _ _ _ _ _ (one_cell V2.h2).1).mono ?_
              rintro e u' w'' ⟨rfl, rfl, rfl⟩
              refine ⟨_, var_results V2 _ rfl rfl, ?_⟩
              rw [HST.out]
              exact ⟨rfl, (((HR1.out.set (by omega) (by omega)).set (by omega) (by omega)).set (by omega) (by omega)).drew, V2.gro⟩
        · rw [if_neg hg2] at HST
          rcases hk9 with ⟨⟨hk9, hkk⟩, hg1⟩ | ⟨hk9, hkk⟩
          · exfalso; omega
          go_wp2_with (go_at_call 103; refine HC.out.mono ?_; rintro e w1 ⟨rfl, hr1, hg1'⟩; have V1 := HVS.out.gros hg1' hBl; obtain ⟨p0, x0⟩ := one_cell V1.h0; obtain ⟨p1, x1⟩ := one_cell V1.h1; obtain ⟨p2, x2⟩ := one_cell V1.h2; have HV1 := Lib.hid V1; have HR1 := Lib.hid hr1; clear V1 hr1 hg1')
          go_region
          go_wp2
          go_roundw
          case rel =>
            refine ⟨k + 1, _, a' + 8, by push_cast; rfl, by omega, E4.out, ?_, ?_, ?_⟩
            · exact HV1.out.set1.drew
            · exact (HR1.out.set (by omega) (by omega)).drew
            · rw [show 10 - (k + 1) = 9 - k from by omega]; exact HST.out.symm
          case measure => simp [intOf]; omega
end Go.Proofs.YtepjpdhmjchakaaGreatDoor
