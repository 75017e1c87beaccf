/- The program's bit reader: Varint, which defers. Numbers in groups of seven: what is read is what is put. Plain Lean. The program's bit reader: Bit and Signed; and the chapter's example. What the chapter's example fixes: the statements' function known. -/
import Derived.Test.YtnplcfgjidolbaaDm9
import Derived.Defers
import Derived.Recover
import Derived.Outline
import Derived.RegionTactic
import Derived.BigRegion
section
namespace Go.Proofs.Ytnplcfgjidolbaa
open Go.RowKit

theorem restore_ok (u : FrameMode) (w : World) (E V R A : Nat) (h : w.cell? ⟨E, 0, none⟩ = some (.int .u16 0)) :
    CallsD Try.prog 51 #[.pointer (some ⟨E, 0, none⟩), .pointer (some ⟨A, 0, none⟩), .pointer (some ⟨R, 0, none⟩), .pointer (some ⟨V, 0, none⟩)] u w fun e u' w' => u' = u ∧ (e = .returned (.tuple #[]) ∧ w' = w) := by
  go_enter_d Try.func51, Try.ntmps51
  go_wp2
  go_end0
  exact ⟨rfl, rfl⟩

theorem restore_bad (u : FrameMode) (w : World) (E V R A B : Nat) (err was : Int) (x y : Value) (he : (err != 0) = true) (h : w.cell? ⟨E, 0, none⟩ = some (.int .u16 err)) (hr : w.cell? ⟨R, 0, none⟩ = some (.pointer (some ⟨B, 0, none⟩)))
    (ha : w.cell? ⟨A, 0, none⟩ = some (.int .i64 was)) (hv : w.cell? ⟨V, 0, none⟩ = some x) (hb : w.cell? ⟨B, 1, none⟩ = some y) (z1 : w.frozen? ⟨B, 1, none⟩ = false) (z2 : w.frozen? ⟨V, 0, none⟩ = false) :
    CallsD Try.prog 51 #[.pointer (some ⟨E, 0, none⟩), .pointer (some ⟨A, 0, none⟩), .pointer (some ⟨R, 0, none⟩), .pointer (some ⟨V, 0, none⟩)] u w fun e u' w' => u' = u ∧ (e = .returned (.tuple #[]) ∧ w' = (w.setCell ⟨B, 1, none⟩ (.int .i64 was)).setCell ⟨V, 0, none⟩ (.int .u64 0)) := by
  go_enter_d Try.func51, Try.ntmps51
  go_wp2
  go_end0
  exact ⟨rfl, rfl⟩

/-- The world within Varint: its four boxes, the rest as it was. -/
structure Vs (w W : World) (B at_ acc : Nat) (err : Int) : Prop where
  h0 : W.heap[w.heap.size]? = some (.cells #[.pointer (some ⟨B, 0, none⟩)] 25 (0, 0))
  h1 : W.heap[w.heap.size + 1]? = some (.cells #[.int .u64 acc] 23 (0, 0))
  h2 : W.heap[w.heap.size + 1 + 1]? = some (.cells #[.int .u16 err] 28 (0, 0))
  h3 : W.heap[w.heap.size + 1 + 1 + 1]? = some (.cells #[.int .i64 at_] 3 (0, 0))
  gro : Gro B none w W
  size : w.heap.size + 4 ≤ W.heap.size

theorem one_cell {w : World} {B : Nat} {a : Value} {t : TypeId} (h : w.heap[B]? = some (.cells #[a] t (0, 0))) : w.cell? ⟨B, 0, none⟩ = some a ∧ w.frozen? ⟨B, 0, none⟩ = false :=
  ⟨by rw [cell_of_row _ _ _ _ _ _ h]; rfl, frozen_of_row _ _ _ _ _ h⟩

theorem alloc_at (w : World) (o : Obj) (n : Nat) (h : w.heap.size = n) : (w.alloc o).heap[n]? = some o := by subst h; exact heap_alloc_new w o
theorem alloc_old (w : World) (o : Obj) (n k : Nat) (x : Option Obj) (h : w.heap.size = n) (hk : k < n) (hx : w.heap[k]? = x) : (w.alloc o).heap[k]? = x := by rw [Below.heap_alloc _ _ _ (by omega)]; exact hx

theorem Vs.start (w : World) (B at_ : Nat) :
    Vs w ((((w.alloc (.cells #[.pointer (some ⟨B, 0, none⟩)] 25)).alloc (.cells #[.int .u64 0] 23)).alloc (.cells #[.int .u16 0] 28)).alloc (.cells #[.int .i64 at_] 3)) B at_ 0 0 ∧
    Below w.heap.size w ((((w.alloc (.cells #[.pointer (some ⟨B, 0, none⟩)] 25)).alloc (.cells #[.int .u64 0] 23)).alloc (.cells #[.int .u16 0] 28)).alloc (.cells #[.int .i64 at_] 3)) := by
  have s1 := World.size_alloc w (.cells #[.pointer (some ⟨B, 0, none⟩)] 25)
  have s2 := World.size_alloc (w.alloc (.cells #[.pointer (some ⟨B, 0, none⟩)] 25)) (.cells #[.int .u64 0] 23)
  have s3 := World.size_alloc ((w.alloc (.cells #[.pointer (some ⟨B, 0, none⟩)] 25)).alloc (.cells #[.int .u64 0] 23)) (.cells #[.int .u16 0] 28)
  have s4 := World.size_alloc (((w.alloc (.cells #[.pointer (some ⟨B, 0, none⟩)] 25)).alloc (.cells #[.int .u64 0] 23)).alloc (.cells #[.int .u16 0] 28)) (.cells #[.int .i64 at_] 3)
  rw [s1] at s2
  rw [s2] at s3
  rw [s3] at s4
  have hb : Below w.heap.size w ((((w.alloc (.cells #[.pointer (some ⟨B, 0, none⟩)] 25)).alloc (.cells #[.int .u64 0] 23)).alloc (.cells #[.int .u16 0] 28)).alloc (.cells #[.int .i64 at_] 3)) :=
    (((((Below.refl _ _).alloc (Nat.le_refl _) _).alloc (by omega) _).alloc (by omega) _).alloc (by omega) _)
  exact ⟨⟨alloc_old _ _ _ _ _ s3 (by omega) (alloc_old _ _ _ _ _ s2 (by omega) (alloc_old _ _ _ _ _ s1 (by omega) (alloc_at _ _ _ rfl))),
    alloc_old _ _ _ _ _ s3 (by omega) (alloc_old _ _ _ _ _ s2 (by omega) (alloc_at _ _ _ s1)), alloc_old _ _ _ _ _ s3 (by omega) (alloc_at _ _ _ s2), alloc_at _ _ _ s3,
    ⟨hb.os, hb.tape, hb.output, hb.size, fun k hk _ _ => hb.block k hk⟩, by omega⟩, hb⟩

theorem Vs.gros {w W W' : World} {B at_ acc : Nat} {err : Int} (h : Vs w W B at_ acc err) (g : Gro B none W W') (hB : B < w.heap.size) : Vs w W' B at_ acc err := by
  have hs := h.size
  refine ⟨?_, ?_, ?_, ?_, h.gro.trans g (Anew.refl _ _), by have := g.size; omega⟩
  · rw [g.block _ (by omega) (by omega) (by simp)]; exact h.h0
  · rw [g.block _ (by omega) (by omega) (by simp)]; exact h.h1
  · rw [g.block _ (by omega) (by omega) (by simp)]; exact h.h2
  · rw [g.block _ (by omega) (by omega) (by simp)]; exact h.h3

theorem Vs.set {w W : World} {B at_ acc acc' : Nat} {err err' : Int} (h : Vs w W B at_ acc err) :
    Vs w ((W.setCell ⟨w.heap.size + 1, 0, none⟩ (.int .u64 (acc' : Int))).setCell ⟨w.heap.size + 1 + 1, 0, none⟩ (.int .u16 err')) B at_ acc' err' := by
  refine ⟨?_, ?_, ?_, ?_, ?_, by simpa using h.size⟩
  · rw [heap_setCell_other _ _ _ _ (by simp; omega), heap_setCell_other _ _ _ _ (by simp)]; exact h.h0
  · rw [heap_setCell_other _ _ _ _ (by simp), heap_setCell_same _ _ _ _ _ _ h.h1]; rfl
  · rw [heap_setCell_same _ _ _ _ _ _ (by rw [heap_setCell_other _ _ _ _ (by simp)]; exact h.h2)]; rfl
  · rw [heap_setCell_other _ _ _ _ (by simp), heap_setCell_other _ _ _ _ (by simp; omega)]; exact h.h3
  · refine ⟨h.gro.os, h.gro.tape, h.gro.output, by simpa using h.gro.size, fun k hk h1 h2 => ?_⟩
    rw [heap_setCell_other _ _ _ _ (by simp; omega), heap_setCell_other _ _ _ _ (by simp; omega)]; exact h.gro.block k hk h1 h2
theorem Vs.set1 {w W : World} {B at_ acc acc' : Nat} {err : Int} (h : Vs w W B at_ acc err) :
    Vs w (W.setCell ⟨w.heap.size + 1, 0, none⟩ (.int .u64 (acc' : Int))) B at_ acc' err := by
  refine ⟨?_, ?_, ?_, ?_, ?_, by simpa using h.size⟩
  · rw [heap_setCell_other _ _ _ _ (by simp)]; exact h.h0
  · rw [heap_setCell_same _ _ _ _ _ _ h.h1]; rfl
  · rw [heap_setCell_other _ _ _ _ (by simp)]; exact h.h2
  · rw [heap_setCell_other _ _ _ _ (by simp; omega)]; exact h.h3
  · refine ⟨h.gro.os, h.gro.tape, h.gro.output, by simpa using h.gro.size, fun k hk h1 h2 => ?_⟩
    rw [heap_setCell_other _ _ _ _ (by simp; omega)]; exact h.gro.block k hk h1 h2
theorem Rd.set {W : World} {B a' lo hi b o : Nat} {v u : Value} {l : List UInt8} (h : Rd W B v a' l lo hi) (h1 : b ≠ B) (h2 : hi ≤ b) : Rd (W.setCell ⟨b, o, none⟩ u) B v a' l lo hi :=
  ⟨by rw [heap_setCell_other _ _ _ _ (Ne.symm h1)]; exact h.cells, h.data.same (fun k _ hk => heap_setCell_other _ _ _ _ (by simp; omega)), h.apart, h.le⟩
theorem Rd.drewN {W : World} {B a' lo hi : Nat} {v : Value} {l : List UInt8} (h : Rd W B v a' l lo hi) (m : Nat) : Rd (W.drewN m) B v a' l lo hi :=
  ⟨h.cells, h.data.same (fun _ _ _ => rfl), h.apart, h.le⟩
theorem Rd.drew {W : World} {B a' lo hi : Nat} {v : Value} {l : List UInt8} (h : Rd W B v a' l lo hi) : Rd W.drew B v a' l lo hi :=
  ⟨h.cells, h.data.same (fun _ _ _ => rfl), h.apart, h.le⟩
theorem Vs.drewN {w W : World} {B at_ acc : Nat} {err : Int} (h : Vs w W B at_ acc err) (m : Nat) : Vs w (W.drewN m) B at_ acc err :=
  ⟨h.h0, h.h1, h.h2, h.h3, ⟨h.gro.os, h.gro.tape, h.gro.output, h.gro.size, h.gro.block⟩, h.size⟩
theorem Vs.drew {w W : World} {B at_ acc : Nat} {err : Int} (h : Vs w W B at_ acc err) : Vs w W.drew B at_ acc err :=
  ⟨h.h0, h.h1, h.h2, h.h3, ⟨h.gro.os, h.gro.tape, h.gro.output, h.gro.size, h.gro.block⟩, h.size⟩

theorem door_bad (u : FrameMode) (w W : World) (B at_ acc a' lo hi : Nat) (err : Int) (v : Value) (l : List UInt8) (he : (err != 0) = true) (h : Vs w W B at_ acc err) (hr : Rd W B v a' l lo hi) (hB : B < w.heap.size) (hhi : hi ≤ w.heap.size) (hat : at_ ≤ 8 * l.length) :
    CallsD Try.prog 51 #[.pointer (some ⟨w.heap.size + 1 + 1, 0, none⟩), .pointer (some ⟨w.heap.size + 1 + 1 + 1, 0, none⟩), .pointer (some ⟨w.heap.size, 0, none⟩), .pointer (some ⟨w.heap.size + 1, 0, none⟩)] u W
      fun e u' w' => u' = u ∧ e = .returned (.tuple #[]) ∧ Vs w w' B at_ 0 err ∧ Rd w' B v at_ l lo hi := by
  obtain ⟨d0, d1, dz⟩ := two_cells hr.cells
  refine (restore_bad u W _ _ _ _ B err at_ _ _ he (one_cell h.h2).1 (one_cell h.h0).1 (one_cell h.h3).1 (one_cell h.h1).1 d1 (dz 1) (one_cell h.h1).2).mono ?_
  rintro e u' w' ⟨rfl, rfl, rfl⟩
  refine ⟨rfl, rfl, ?_, ?_⟩
  · refine Vs.set1 (acc := acc) ⟨?_, ?_, ?_, ?_, ?_, by simpa using h.size⟩
    · rw [heap_setCell_other _ _ _ _ (by simp; omega)]; exact h.h0
    · rw [heap_setCell_other _ _ _ _ (by simp; omega)]; exact h.h1
    · rw [heap_setCell_other _ _ _ _ (by simp; omega)]; exact h.h2
    · rw [heap_setCell_other _ _ _ _ (by simp; omega)]; exact h.h3
    · refine ⟨h.gro.os, h.gro.tape, h.gro.output, by simpa using h.gro.size, fun k hk h1 h2 => ?_⟩
      rw [heap_setCell_other _ _ _ _ h1]; exact h.gro.block k hk h1 h2
  · refine Rd.set ⟨?_, ?_, hr.apart, hat⟩ (by omega) (by omega)
    · rw [heap_setCell_same _ _ _ _ _ _ hr.cells]; rfl
    · exact hr.data.same (fun k h1 h2 => heap_setCell_other _ _ _ _ (by have := hr.apart; simp; omega))

theorem and127 (v : Nat) : bits .and .u64 (v : Int) 127 = ((v % 128 : Nat) : Int) := by
  show IntKind.u64.wrap ((BitVec.ofInt 64 (v : Int) &&& BitVec.ofInt 64 (127 : Int)).toNat : Int) = _
  have e3 : (BitVec.ofInt 64 (127 : Int)).toNat = 2 ^ 7 - 1 := by decide
  rw [BitVec.ofInt_natCast, BitVec.toNat_and, BitVec.toNat_ofNat, e3, Nat.and_two_pow_sub_one_eq_mod, Nat.mod_mod_of_dvd _ (by decide : 2 ^ 7 ∣ 2 ^ 64), IntWalk.u64_in]
  have := Nat.mod_lt v (show 0 < 2 ^ 7 by omega)
  omega

set_option maxRecDepth 100000 in
theorem or_septet (acc g k : Nat) (hacc : acc < 128 ^ k) (hk : k < 9 ∨ (k = 9 ∧ g ≤ 1)) :
    bits .or .u64 (acc : Int) (IntKind.u64.wrap ((g : Int) % 128 * 2 ^ (7 * k))) = ((acc + g % 128 * 128 ^ k : Nat) : Int) ∧ acc + g % 128 * 128 ^ k < 128 ^ (k + 1) := by
  have hp : (128 : Nat) ^ k = 2 ^ (7 * k) := by rw [Nat.pow_mul]
  have hm : g % 128 < 128 := Nat.mod_lt _ (by omega)
  have hlt : g % 128 * 2 ^ (7 * k) + 2 ^ (7 * k) ≤ 2 ^ 64 := by
    rcases hk with hk | ⟨rfl, hg⟩
    · have h1 : 2 ^ (7 * k) ≤ 2 ^ 56 := Nat.pow_le_pow_right (by omega) (by omega)
      have h2 : g % 128 * 2 ^ (7 * k) ≤ 127 * 2 ^ 56 := Nat.mul_le_mul (by omega) h1
      omega
    · have : g % 128 ≤ 1 := by omega
      have h2 : g % 128 * 2 ^ (7 * 9) ≤ 1 * 2 ^ (7 * 9) := Nat.mul_le_mul_right _ this
      exact Nat.le_trans (Nat.add_le_add_right h2 _) (by decide)
  rw [hp] at hacc ⊢
  have hpos : 0 < 2 ^ (7 * k) := Nat.two_pow_pos _
  have e2 : IntKind.u64.wrap ((g : Int) % 128 * 2 ^ (7 * k)) = ((2 ^ (7 * k) * (g % 128) : Nat) : Int) := by
    rw [show ((g : Int) % 128 * 2 ^ (7 * k)) = ((2 ^ (7 * k) * (g % 128) : Nat) : Int) from by push_cast; rw [Int.mul_comm]]
    exact IntWalk.u64_in _ (by rw [Nat.mul_comm]; omega)
  refine ⟨?_, ?_⟩
  · rw [e2]
    show IntKind.u64.wrap ((BitVec.ofInt 64 (acc : Int) ||| BitVec.ofInt 64 ((2 ^ (7 * k) * (g % 128) : Nat) : Int)).toNat : Int) = _
    have h3 : 2 ^ (7 * k) * (g % 128) < 2 ^ 64 := by rw [Nat.mul_comm]; omega
    rw [BitVec.ofInt_natCast, BitVec.ofInt_natCast, BitVec.toNat_or, BitVec.toNat_ofNat, BitVec.toNat_ofNat, Nat.mod_eq_of_lt (by omega), Nat.mod_eq_of_lt h3,
      Nat.or_comm, ← Nat.two_pow_add_eq_or_of_lt hacc, IntWalk.u64_in _ (by rw [Nat.mul_comm]; omega), Nat.mul_comm, Nat.add_comm]
  · rw [show (128 : Nat) ^ (k + 1) = 128 * 2 ^ (7 * k) from by rw [Nat.pow_succ, hp, Nat.mul_comm]]
    have : g % 128 * 2 ^ (7 * k) ≤ 127 * 2 ^ (7 * k) := Nat.mul_le_mul (by omega) (Nat.le_refl _)
    omega

/-- What Varint comes to. -/
def RvPost (w : World) (B at_ lo hi : Nat) (v : Value) (l : List UInt8) : Nat ⊕ (Nat × Nat) → Ending → World → Prop
  | .inl er, e, w' => e = .returned (.tuple #[.int .u64 0, .int .u16 (er : Int)]) ∧ Rd w' B v at_ l lo hi ∧ Gro B none w w'
  | .inr (x, a'), e, w' => e = .returned (.tuple #[.int .u64 (x : Int), .int .u16 0]) ∧ Rd w' B v a' l lo hi ∧ Gro B none w w'

/-- What Varint's end reads out of its boxes. -/
theorem var_results {w W : World} {B at_ acc : Nat} {err : Int} (h : Vs w W B at_ acc err) (tmps : Array Value) (h2 : tmps.getD 2 undef = .pointer (some ⟨w.heap.size + 1, 0, none⟩)) (h3 : tmps.getD 3 undef = .pointer (some ⟨w.heap.size + 1 + 1, 0, none⟩)) :
    (results Try.f12 tmps).run Try.prog W = .ok (.tuple #[.int .u64 (acc : Int), .int .u16 err]) W := by
  have q1 := (one_cell h.h1).1
  have q2 := (one_cell h.h2).1
  have h2' : tmps[2]?.getD undef = .pointer (some ⟨w.heap.size + 1, 0, none⟩) := by simpa using h2
  have h3' : tmps[3]?.getD undef = .pointer (some ⟨w.heap.size + 1 + 1, 0, none⟩) := by simpa using h3
  simp [results, Try.results12, go_sem, h2', h3', q1, q2]

set_option maxRecDepth 100000 in
theorem rvarint_any (lo hi : Nat) (w : World) (B at_ : Nat) (v : Value) (l : List UInt8) (h : Rd w B v at_ l lo hi) (hhi : hi ≤ w.heap.size) :
    Calls Try.prog 12 #[.pointer (some ⟨B, 0, none⟩)] w (RvPost w B at_ lo hi v l (Bt.rv (Bt.unpack l) at_)) := by
  have HH := Lib.hid h
  obtain ⟨c0, c1, cz⟩ := two_cells h.cells
  have hmf : ∀ (fn : Fn) (first cap : Array Value) (w : World), (Instr.makeFunc fn first cap).run Try.prog w = .ok (.func fn first cap) w := fun _ _ _ _ => rfl
  have hBl : B < w.heap.size := block_lt_of_cell c0
  have d1 : ∀ o1 o2 o3, (((w.alloc o1).alloc o2).alloc o3).cell? ⟨B, 1, none⟩ = some (.int .i64 (at_ : Int)) := fun o1 o2 o3 => by
    rw [World.cell?_of_block (w := w)]
    · exact c1
    · rw [Below.heap_alloc _ _ _ (by rw [World.size_alloc, World.size_alloc]; exact Nat.lt_of_lt_of_le hBl (by omega)), Below.heap_alloc _ _ _ (by rw [World.size_alloc]; exact Nat.lt_succ_of_lt hBl), Below.heap_alloc _ _ _ hBl]
  have hst := Vs.start w B at_
  clear h
  go_enter_defers Try.func12, Try.ntmps12
  go_wp2_with fail
  revert hst
  generalize ((((w.alloc _).alloc _).alloc _).alloc _) = W
  intro hst
  clear d1 c0 c1 cz
  go_loopw [5] (fun i wr => ∃ k acc a' : Nat, i = .int .i64 k ∧ k ≤ 9 ∧ acc < 128 ^ k ∧ Vs w wr B at_ acc 0 ∧ Rd wr B v a' l lo hi ∧ Bt.rvg (Bt.unpack l) (10 - k) k a' acc = Bt.rv (Bt.unpack l) at_) (fun i _ => 10 - (intOf i).toNat)
  case atStart => exact ⟨0, 0, at_, rfl, by omega, by omega, hst.1, ⟨by rw [hst.2.block _ hBl]; exact HH.out.cells, HH.out.data.below hst.2 hhi, HH.out.apart, HH.out.le⟩, rfl⟩
  case round =>
    obtain ⟨k, acc, a', rfl, hk, hacc, hvs, hrd, hrv⟩ := hrel
    have HRV := Lib.hid hrv
    have HVS := Lib.hid hvs
    have HRD := Lib.hid hrd
    have HA := Lib.hid hacc
    clear hrv hacc hrd
    obtain ⟨q0, y0⟩ := one_cell hvs.h0
    obtain ⟨q1, y1⟩ := one_cell hvs.h1
    obtain ⟨q2, y2⟩ := one_cell hvs.h2
    obtain ⟨q3, y3⟩ := one_cell hvs.h3
    clear hvs
    have ek : 10 - k = (9 - k) + 1 := by omega
    by_cases hshort : 8 * l.length < a' + 8
    · have hres : Bt.rv (Bt.unpack l) at_ = .inl 20 := by
        rw [← HRV.out, ek, Bt.rvg, if_pos (by rw [Bt.unpack_len]; exact hshort)]
      have HRES := Lib.hid hres
      clear hres ek
      go_wp2_with (go_at_call 27; refine (rbits_short lo hi _ B a' 8 v l HRD.out (by omega) hshort).mono ?_; rintro e w1 ⟨rfl, m, rfl⟩)

      refine leaves_cons (f := 51) (args := #[.pointer (some ⟨w.heap.size + 1 + 1, 0, none⟩), .pointer (some ⟨w.heap.size + 1 + 1 + 1, 0, none⟩), .pointer (some ⟨w.heap.size, 0, none⟩), .pointer (some ⟨w.heap.size + 1, 0, none⟩)]) (by simp) (by simp [go_sem]) ?_
      refine (door_bad _ w _ B at_ 0 a' lo hi 20 v l rfl (HVS.out.drewN m).set (((HRD.out.drewN m).set (by omega) (by omega)).set (by omega) (by omega)) hBl hhi HH.out.le).mono ?_
      rintro e u' w'' ⟨rfl, rfl, hv2, hr2⟩
      refine ⟨_, var_results hv2 _ rfl rfl, ?_⟩
      rw [HRES.out]
      exact ⟨rfl, hr2, hv2.gro⟩
    · have hU : ¬ (Bt.unpack l).length < a' + 8 := by rw [Bt.unpack_len]; exact hshort
      obtain ⟨g, hg⟩ : ∃ g, g = Bt.val (((Bt.unpack l).drop a').take 8) := ⟨_, rfl⟩
      have hgl : g < 256 := by
        have h1 := Bt.val_lt (((Bt.unpack l).drop a').take 8)
        have h2 : (((Bt.unpack l).drop a').take 8).length ≤ 8 := List.length_take_le _ _
        have h3 : 2 ^ (((Bt.unpack l).drop a').take 8).length ≤ 2 ^ 8 := Nat.pow_le_pow_right (by omega) h2
        omega
      have hstep : Bt.rv (Bt.unpack l) at_ = if k = 9 ∧ 1 < g then .inl 21 else if g < 128 then (if 0 < k ∧ g = 0 then .inl 21 else .inr (acc + g % 128 * 128 ^ k, a' + 8))
          else Bt.rvg (Bt.unpack l) (9 - k) (k + 1) (a' + 8) (acc + g % 128 * 128 ^ k) := by
        rw [← HRV.out, ek, Bt.rvg, if_neg hU, ← hg]
      have HST := Lib.hid hstep
      have hcall := rbits_any lo hi wr B a' 8 v l HRD.out (by omega) (by omega)
      rw [← hg] at hcall
      have HC := Lib.hid hcall
      clear hstep ek hU hg hcall HRV
      by_cases h9 : k = 9 ∧ 1 < g
      · rw [if_pos h9] at HST
        obtain ⟨rfl, hg1⟩ := h9
        go_wp2_with (go_at_call 27; refine HC.out.mono ?_; rintro e w1 ⟨rfl, hr1, hg1'⟩; have V1 := HVS.out.gros hg1' hBl; obtain ⟨p0, x0⟩ := one_cell V1.h0; obtain ⟨p1, x1⟩ := one_cell V1.h1; obtain ⟨p2, x2⟩ := one_cell V1.h2; have HV1 := Lib.hid V1; have HR1 := Lib.hid hr1; clear V1 hr1 hg1')
        refine leaves_cons (f := 51) (args := #[.pointer (some ⟨w.heap.size + 1 + 1, 0, none⟩), .pointer (some ⟨w.heap.size + 1 + 1 + 1, 0, none⟩), .pointer (some ⟨w.heap.size, 0, none⟩), .pointer (some ⟨w.heap.size + 1, 0, none⟩)]) (by simp) (by simp [go_sem]) ?_
        refine (door_bad _ w _ B at_ 0 _ lo hi 21 v l rfl HV1.out.set ((HR1.out.set (by omega) (by omega)).set (by omega) (by omega)) hBl hhi HH.out.le).mono ?_
        rintro e u' w'' ⟨rfl, rfl, hv2, hr2⟩
        refine ⟨_, var_results hv2 _ rfl rfl, ?_⟩
        rw [HST.out]
        exact ⟨rfl, hr2, hv2.gro⟩
      · rw [if_neg h9] at HST
        have hk9 : ((((k : Int) == 9) = true ∧ k = 9) ∧ g ≤ 1) ∨ (((k : Int) == 9) = false ∧ k < 9) := by
          by_cases e : k = 9
          · left; exact ⟨⟨by simp [e], e⟩, by omega⟩
          · right; exact ⟨by simp; omega, by omega⟩
        have e1 := and127 g
        obtain ⟨e3, e4⟩ := or_septet acc g k HA.out (by omega)
        generalize acc + g % 128 * 128 ^ k = acc2 at *
        have E4 := Lib.hid e4
        clear h9 e4
        have hgc : (g < 128 ∧ (0 < k ∧ g = 0)) ∨ (g < 128 ∧ ¬ (0 < k ∧ g = 0)) ∨ (¬ g < 128 ∧ k < 9) := by omega
        rcases hgc with ⟨hg2, hg3⟩ | ⟨hg2, hg3⟩ | ⟨hg2, hk8⟩
        · rw [if_pos hg2, if_pos hg3] at HST
          obtain ⟨hg4, hg5⟩ := hg3
          have hg6 : ((g : Int) == 0) = true := by simp [hg5]
          clear hg5
          rcases hk9 with ⟨⟨hk9, hkk⟩, hg1⟩ | ⟨hk9, hkk⟩
          all_goals
            clear hkk
            go_wp2_with (go_at_call 27; refine HC.out.mono ?_; rintro e w1 ⟨rfl, hr1, hg1'⟩; have V1 := HVS.out.gros hg1' hBl; obtain ⟨p0, x0⟩ := one_cell V1.h0; obtain ⟨p1, x1⟩ := one_cell V1.h1; obtain ⟨p2, x2⟩ := one_cell V1.h2; have HV1 := Lib.hid V1; have HR1 := Lib.hid hr1; clear V1 hr1 hg1')
            go_region
            go_wp2
            refine leaves_cons (f := 51) (args := #[.pointer (some ⟨w.heap.size + 1 + 1, 0, none⟩), .pointer (some ⟨w.heap.size + 1 + 1 + 1, 0, none⟩), .pointer (some ⟨w.heap.size, 0, none⟩), .pointer (some ⟨w.heap.size + 1, 0, none⟩)]) (by simp) (by simp [go_sem]) ?_
            refine (door_bad _ w _ B at_ 0 _ lo hi 21 v l rfl (HV1.out.set1.set).drew ((((HR1.out.set (by omega) (by omega)).set (by omega) (by omega)).set (by omega) (by omega)).drew) hBl hhi HH.out.le).mono ?_
            rintro e u' w'' ⟨rfl, rfl, hv2, hr2⟩
            refine ⟨_, var_results hv2 _ rfl rfl, ?_⟩
            rw [HST.out]
            exact ⟨rfl, hr2, hv2.gro⟩
        · rw [if_pos hg2, if_neg hg3] at HST
          have hg4 : (((k : Int) == 9) = true ∧ 0 < k ∧ g ≠ 0 ∧ g ≤ 1) ∨ (((k : Int) == 9) = false ∧ 0 < k ∧ g ≠ 0) ∨ (((k : Int) == 9) = false ∧ k = 0) := by
            rcases hk9 with ⟨⟨h1, h2⟩, h3⟩ | ⟨h1, h2⟩
            · exact Or.inl ⟨h1, by omega, by omega, by omega⟩
            · by_cases h0 : k = 0
              · exact Or.inr (Or.inr ⟨h1, h0⟩)
              · exact Or.inr (Or.inl ⟨h1, by omega, by omega⟩)
          clear hk9
          have hg7 : (((k : Int) == 9) = true ∧ 0 < k ∧ g ≠ 0 ∧ g ≤ 1) ∨ (((k : Int) == 9) = false ∧ 0 < k ∧ g ≠ 0) ∨ (((k : Int) == 9) = false ∧ k = 0 ∧ bits .or .u64 (acc : Int) ((g : Int) % 128) = (acc2 : Int)) := by
            rcases hg4 with h | h | ⟨h1, h2⟩
            · exact Or.inl h
            · exact Or.inr (Or.inl h)
            · refine Or.inr (Or.inr ⟨h1, h2, ?_⟩)
              subst h2
              rw [← e3, show ((g : Int) % 128 * 2 ^ (7 * 0)) = ((g % 128 : Nat) : Int) from by simp, IntWalk.u64_in _ (by omega)]
              rfl
          clear hg4
          rcases hg7 with ⟨hk9, hg4, hg5, hg6⟩ | ⟨hk9, hg4, hg5⟩ | ⟨hk9, hg4, hg5⟩
          all_goals
              go_wp2_with (go_at_call 27; refine HC.out.mono ?_; rintro e w1 ⟨rfl, hr1, hg1'⟩; have V1 := HVS.out.gros hg1' hBl; obtain ⟨p0, x0⟩ := one_cell V1.h0; obtain ⟨p1, x1⟩ := one_cell V1.h1; obtain ⟨p2, x2⟩ := one_cell V1.h2; have HV1 := Lib.hid V1; have HR1 := Lib.hid hr1; clear V1 hr1 hg1')
              go_region
              go_wp2
              have V2 := ((HV1.out.set1 (acc' := acc2)).set (acc' := acc2) (err' := 0)).drew
              refine leaves_cons (f := 51) (args := #[.pointer (some ⟨w.heap.size + 1 + 1, 0, none⟩), .pointer (some ⟨w.heap.size + 1 + 1 + 1, 0, none⟩), .pointer (some ⟨w.heap.size, 0, none⟩), .pointer (some ⟨w.heap.size + 1, 0, none⟩)]) (by simp) (by simp [go_sem]) ?_
              refine (restore_ok _ _ _ _ _ _ (one_cell V2.h2).1).mono ?_
              rintro e u' w'' ⟨rfl, rfl, rfl⟩
              refine ⟨_, var_results V2 _ rfl rfl, ?_⟩
              rw [HST.out]
              exact ⟨rfl, (((HR1.out.set (by omega) (by omega)).set (by omega) (by omega)).set (by omega) (by omega)).drew, V2.gro⟩
        · rw [if_neg hg2] at HST
          rcases hk9 with ⟨⟨hk9, hkk⟩, hg1⟩ | ⟨hk9, hkk⟩
          · exfalso; omega
          go_wp2_with (go_at_call 27; refine HC.out.mono ?_; rintro e w1 ⟨rfl, hr1, hg1'⟩; have V1 := HVS.out.gros hg1' hBl; obtain ⟨p0, x0⟩ := one_cell V1.h0; obtain ⟨p1, x1⟩ := one_cell V1.h1; obtain ⟨p2, x2⟩ := one_cell V1.h2; have HV1 := Lib.hid V1; have HR1 := Lib.hid hr1; clear V1 hr1 hg1')
          go_region
          go_wp2
          go_roundw
          case rel =>
            refine ⟨k + 1, _, a' + 8, by push_cast; rfl, by omega, E4.out, ?_, ?_, ?_⟩
            · exact HV1.out.set1.drew
            · exact (HR1.out.set (by omega) (by omega)).drew
            · rw [show 10 - (k + 1) = 9 - k from by omega]; exact HST.out.symm
          case measure => simp [intOf]; omega
end Go.Proofs.Ytnplcfgjidolbaa
end
section
namespace Go.Proofs.Ytnplcfgjidolbaa.Bt

theorem group8 (U : List Bool) (a : Nat) (h : ¬ U.length < a + 8) : nb (val ((U.drop a).take 8)) 8 = (U.drop a).take 8 := by
  have hl : ((U.drop a).take 8).length = 8 := by rw [List.length_take, List.length_drop]; omega
  have := nb_val ((U.drop a).take 8)
  rwa [hl] at this
theorem group8_lt (U : List Bool) (a : Nat) : val ((U.drop a).take 8) < 256 := by
  have h1 := val_lt ((U.drop a).take 8)
  have h2 : ((U.drop a).take 8).length ≤ 8 := List.length_take_le _ _
  have h3 : 2 ^ ((U.drop a).take 8).length ≤ 2 ^ 8 := Nat.pow_le_pow_right (by omega) h2
  omega

theorem pow64 (i : Nat) (h : i < 9) : 2 ^ (64 - 7 * i) = 128 * 2 ^ (64 - 7 * (i + 1)) := by
  rw [show 64 - 7 * i = 7 + (64 - 7 * (i + 1)) from by omega, Nat.pow_add]

theorem rvg_ok (U : List Bool) (f : Nat) : ∀ i a acc x a', i + f = 10 → rvg U f i a acc = .inr (x, a') →
    ∃ y, x = acc + y * 128 ^ i ∧ y < 2 ^ (64 - 7 * i) ∧ a + 8 ≤ a' ∧ a' ≤ U.length ∧ (U.drop a).take (a' - a) = vbf f y ∧ (0 < i → 0 < y) ∧ (a' - a) % 8 = 0 := by
  induction f with
  | zero => intro i a acc x a' _ h; simp [rvg] at h
  | succ f ih =>
    intro i a acc x a' hi h
    rw [rvg] at h
    by_cases h1 : U.length < a + 8
    · rw [if_pos h1] at h; cases h
    rw [if_neg h1] at h
    have hg := group8 U a h1
    have hgl := group8_lt U a
    generalize hG : val ((U.drop a).take 8) = G at *
    by_cases h2 : i = 9 ∧ 1 < G
    · rw [if_pos h2] at h; cases h
    rw [if_neg h2] at h
    by_cases h3 : G < 128
    · rw [if_pos h3] at h
      by_cases h4 : 0 < i ∧ G = 0
      · rw [if_pos h4] at h; cases h
      rw [if_neg h4] at h
      injection h with h
      injection h with h5 h6
      subst h6
      refine ⟨G, by rw [← h5, Nat.mod_eq_of_lt h3], ?_, by omega, by omega, ?_, by omega, by omega⟩
      · by_cases h9 : i < 9
        · have : 2 ^ 8 ≤ 2 ^ (64 - 7 * i) := Nat.pow_le_pow_right (by omega) (by omega)
          omega
        · have : i = 9 := by omega
          subst this
          have : G ≤ 1 := by omega
          omega
      · rw [show a + 8 - a = 8 from by omega, ← hg, vbf, if_neg (by omega)]
    · rw [if_neg h3] at h
      have h9 : i < 9 := by omega
      obtain ⟨y, e1, e2, e3, e4, e5, e6, e7⟩ := ih (i + 1) (a + 8) _ x a' (by omega) h
      have hy := e6 (by omega)
      refine ⟨G % 128 + 128 * y, ?_, ?_, by omega, e4, ?_, by omega, by omega⟩
      · rw [e1, Nat.add_mul, Nat.pow_succ, Nat.mul_right_comm, Nat.add_assoc]; congr 2; rw [Nat.mul_comm y, Nat.mul_comm (128 ^ i), Nat.mul_right_comm, Nat.mul_comm]
      · rw [pow64 i h9]; omega
      · rw [show a' - a = 8 + (a' - (a + 8)) from by omega, List.take_add, ← hg, List.drop_drop, e5, vbf, if_pos (by omega)]
        congr 2
        · congr 1; omega
        · congr 1; omega

theorem rvg_back (C : List Bool) (f : Nat) : ∀ (A : List Bool) i y acc, i + f = 10 → y < 2 ^ (64 - 7 * i) → (0 < i → 0 < y) →
    rvg (A ++ vbf f y ++ C) f i A.length acc = .inr (acc + y * 128 ^ i, A.length + (vbf f y).length) := by
  induction f with
  | zero =>
    intro A i y acc hi hy h0
    have : i = 10 := by omega
    subst this
    simp at hy
    omega
  | succ f ih =>
    intro A i y acc hi hy h0
    have hgrp : ∃ g D, g < 256 ∧ vbf (f + 1) y = nb g 8 ++ D ∧ ((y ≤ 127 ∧ g = y ∧ D = []) ∨ (127 < y ∧ g = y % 128 + 128 ∧ D = vbf f (y / 128))) := by
      rw [vbf]
      by_cases h : 127 < y
      · exact ⟨_, _, by omega, by rw [if_pos h], Or.inr ⟨h, rfl, rfl⟩⟩
      · exact ⟨y, [], by omega, by rw [if_neg h, List.append_nil], Or.inl ⟨by omega, rfl, rfl⟩⟩
    obtain ⟨g, D, hg, hv, hc⟩ := hgrp
    have hdrop : ((A ++ vbf (f + 1) y ++ C).drop A.length).take 8 = nb g 8 := by
      rw [hv, List.append_assoc, List.drop_left, List.append_assoc, List.take_append_of_le_length (by rw [nb_len]; omega), List.take_of_length_le (by rw [nb_len]; omega)]
    have hl : ¬ (A ++ vbf (f + 1) y ++ C).length < A.length + 8 := by
      rw [hv]; simp [nb_len]
    rw [rvg, if_neg hl, hdrop, val_nb, Nat.mod_eq_of_lt (show g < 2 ^ 8 from hg)]
    have h9 : i = 9 → y ≤ 1 := by intro e; subst e; simp at hy; omega
    rw [if_neg (by omega)]
    rcases hc with ⟨c1, c2, c3⟩ | ⟨c1, c2, c3⟩
    · subst c2
      rw [if_pos (by omega), if_neg (by omega), hv, c3, Nat.mod_eq_of_lt (by omega)]
      simp [nb_len]
    · rw [if_neg (by omega)]
      have h8 : i < 9 := by omega
      rw [pow64 i h8] at hy
      have := ih (A ++ nb g 8) (i + 1) (y / 128) (acc + g % 128 * 128 ^ i) (by omega) (by omega) (by omega)
      rw [List.length_append, nb_len] at this
      rw [hv, c3, ← List.append_assoc A, this, List.length_append, nb_len]
      congr 2
      · rw [c2, Nat.pow_succ, Nat.add_assoc, show (y % 128 + 128) % 128 = y % 128 from by omega, Nat.mul_comm (128 ^ i) 128, ← Nat.mul_assoc, ← Nat.add_mul]
        congr 2; omega
      · omega

theorem rv_ok {U : List Bool} {a x a' : Nat} (h : rv U a = .inr (x, a')) : x < 18446744073709551616 ∧ a + 8 ≤ a' ∧ a' ≤ U.length ∧ (U.drop a).take (a' - a) = vb x ∧ (a' - a) % 8 = 0 := by
  obtain ⟨y, e1, e2, e3, e4, e5, _, e7⟩ := rvg_ok U 10 0 a 0 x a' (by omega) h
  have : x = y := by rw [e1]; simp
  subst this
  exact ⟨by simpa using e2, e3, e4, e5, e7⟩
theorem rv_back (A C : List Bool) (v : Nat) (h : v < 18446744073709551616) : rv (A ++ vb v ++ C) A.length = .inr (v, A.length + (vb v).length) := by
  have := rvg_back C 10 A 0 v 0 (by omega) (by simpa using h) (by omega)
  simpa [rv, vb] using this

theorem vbf_le (k : Nat) : ∀ v, (vbf k v).length ≤ 8 * (k + 1) ∧ 8 ≤ (vbf k v).length := by
  induction k with
  | zero => intro v; rw [vbf, nb_len]; omega
  | succ k ih =>
    intro v
    rw [vbf]; split
    · rw [List.length_append, nb_len]; have := ih (v / 128); omega
    · rw [nb_len]; omega
theorem vbf_mono (k : Nat) : ∀ a b, a ≤ b → (vbf k a).length ≤ (vbf k b).length := by
  induction k with
  | zero => intro a b _; rw [vbf, vbf, nb_len, nb_len]; omega
  | succ k ih =>
    intro a b h
    rw [vbf, vbf]
    by_cases ha : 127 < a
    · rw [if_pos ha, if_pos (by omega), List.length_append, List.length_append, nb_len, nb_len]
      have := ih (a / 128) (b / 128) (Nat.div_le_div_right h)
      omega
    · rw [if_neg ha]
      split
      · rw [List.length_append, nb_len, nb_len]; omega
      · rw [nb_len, nb_len]; omega
theorem vb_le (v : Nat) (h : v < 18446744073709551616) : (vb v).length ≤ 80 ∧ 8 ≤ (vb v).length := by
  have e : vb v = vbf 9 v := vbf_fuel 9 v (Nat.lt_of_lt_of_le h (by decide)) 1
  rw [e]; exact vbf_le 9 v
theorem vb_mono (a b : Nat) (h : a ≤ b) : (vb a).length ≤ (vb b).length := vbf_mono 10 a b h

/-- Whole bytes of an unpacked row. -/
theorem pack_take_unpack (l : List UInt8) (n : Nat) (h : n ≤ l.length) : pack ((unpack l).take (8 * n)) = l.take n := by
  have : (unpack l).take (8 * n) = unpack (l.take n) := by
    apply List.ext_getElem?
    intro j
    by_cases hj : j < 8 * n
    · rw [List.getElem?_take_of_lt hj, unpack_get _ _ (by omega), unpack_get _ _ (by rw [List.length_take]; omega)]
      unfold mbit
      have : j / 8 < n := by omega
      simp [List.getD, this]
    · rw [List.getElem?_eq_none (by simp; omega), List.getElem?_eq_none (by rw [unpack_len, List.length_take]; omega)]
  rw [this, pack_unpack]
end Go.Proofs.Ytnplcfgjidolbaa.Bt
end
section
namespace Go.Proofs.Ytnplcfgjidolbaa
open Go.RowKit

theorem rbit_any (lo hi : Nat) (w : World) (B at_ : Nat) (v : Value) (l : List UInt8) (h : Rd w B v at_ l lo hi) (hle : at_ + 1 ≤ 8 * l.length) :
    Calls Try.prog 26 #[.pointer (some ⟨B, 0, none⟩)] w fun e w' => e = .returned (.tuple #[.bool (Bt.mbit l at_), .int .u16 0]) ∧ Rd w' B v (at_ + 1) l lo hi ∧ Gro B none w w' := by
  have hb : (((Bt.val (((Bt.unpack l).drop at_).take 1) : Nat) : Int) == 1) = Bt.mbit l at_ := by
    have h1 := Bt.unpack_get l at_ (by omega)
    have h2 : ((Bt.unpack l).drop at_).take 1 = [Bt.mbit l at_] := by
      rw [List.take_one, List.head?_drop, h1]; rfl
    rw [h2]
    cases Bt.mbit l at_ <;> rfl
  have HC := Lib.hid (rbits_any lo hi w B at_ 1 v l h (by omega) hle)
  clear h
  go_enter Try.func26, Try.ntmps26
  go_wp2_with (go_at_call 27; refine Calls.mono (by exact HC.out) ?_; rintro e w1 ⟨rfl, hr1, hg1⟩)

  go_ret2
  exact ⟨rfl, hr1, hg1⟩
theorem rbit_short (lo hi : Nat) (w : World) (B at_ : Nat) (v : Value) (l : List UInt8) (h : Rd w B v at_ l lo hi) (hle : 8 * l.length < at_ + 1) :
    Calls Try.prog 26 #[.pointer (some ⟨B, 0, none⟩)] w fun e w' => e = .returned (.tuple #[.bool false, .int .u16 20]) ∧ ∃ m, w' = w.drewN m := by
  have HC := Lib.hid (rbits_short lo hi w B at_ 1 v l h (by omega) hle)
  clear h
  go_enter Try.func26, Try.ntmps26
  go_wp2_with (go_at_call 27; refine Calls.mono (by exact HC.out) ?_; rintro e w1 ⟨rfl, m, rfl⟩)
  go_ret2
  exact ⟨rfl, _, rfl⟩

theorem and1 (v : Nat) : bits .and .u64 (v : Int) 1 = ((v % 2 : Nat) : Int) := by
  show IntKind.u64.wrap ((BitVec.ofInt 64 (v : Int) &&& BitVec.ofInt 64 (1 : Int)).toNat : Int) = _
  have e3 : (BitVec.ofInt 64 (1 : Int)).toNat = 2 ^ 1 - 1 := by decide
  rw [BitVec.ofInt_natCast, BitVec.toNat_and, BitVec.toNat_ofNat, e3, Nat.and_two_pow_sub_one_eq_mod, Nat.mod_mod_of_dvd _ (by decide : 2 ^ 1 ∣ 2 ^ 64), IntWalk.u64_in _ (by have := Nat.mod_lt v (show 0 < 2 ^ 1 by omega); omega)]

/-- What a signed number was before it was put. -/
def un (x : Nat) : Int := if x % 2 = 0 then (x / 2 : Nat) else -((x / 2 : Nat) : Int) - 1
theorem un_zz (s : Int) : un (zz s) = s := by
  unfold un zz
  by_cases h : 0 ≤ s
  · rw [if_pos h, if_pos (by omega)]; omega
  · rw [if_neg h, if_neg (by omega)]; omega
theorem zz_un (x : Nat) : zz (un x) = x := by
  unfold un zz
  by_cases h : x % 2 = 0
  · rw [if_pos h, if_pos (by omega)]; omega
  · rw [if_neg h, if_neg (by omega)]; omega

theorem xor_ev (a : Nat) (h : a < 9223372036854775808) : bits .xor .i64 (a : Int) 0 = (a : Int) := by
  show IntKind.i64.wrap ((BitVec.ofInt 64 (a : Int) ^^^ BitVec.ofInt 64 (0 : Int)).toNat : Int) = _
  rw [BitVec.ofInt_natCast, show BitVec.ofInt 64 (0 : Int) = 0#64 from by decide, BitVec.xor_zero, BitVec.toNat_ofNat, Nat.mod_eq_of_lt (by omega)]
  rw [IntKind.wrap_i64]; omega
theorem xor_od (a : Nat) (h : a < 9223372036854775808) : bits .xor .i64 (a : Int) (-1) = -(a : Int) - 1 := by
  show IntKind.i64.wrap ((BitVec.ofInt 64 (a : Int) ^^^ BitVec.ofInt 64 (-1 : Int)).toNat : Int) = _
  rw [BitVec.ofInt_natCast, show BitVec.ofInt 64 (-1 : Int) = BitVec.allOnes 64 from by decide, BitVec.xor_allOnes, BitVec.toNat_not, BitVec.toNat_ofNat, Nat.mod_eq_of_lt (by omega)]
  unfold IntKind.wrap
  simp [IntKind.bits, IntKind.signed]
  omega

/-- What Signed comes to. -/
def RsPost (w : World) (B at_ lo hi : Nat) (v : Value) (l : List UInt8) : Nat ⊕ (Nat × Nat) → Ending → World → Prop
  | .inl er, e, w' => e = .returned (.tuple #[.int .i64 0, .int .u16 (er : Int)]) ∧ Rd w' B v at_ l lo hi ∧ Gro B none w w'
  | .inr (x, a'), e, w' => e = .returned (.tuple #[.int .i64 (un x), .int .u16 0]) ∧ Rd w' B v a' l lo hi ∧ Gro B none w w'

theorem rsigned_any (lo hi : Nat) (w : World) (B at_ : Nat) (v : Value) (l : List UInt8) (h : Rd w B v at_ l lo hi) (hhi : hi ≤ w.heap.size) :
    Calls Try.prog 28 #[.pointer (some ⟨B, 0, none⟩)] w (RsPost w B at_ lo hi v l (Bt.rv (Bt.unpack l) at_)) := by
  have HC := rvarint_any lo hi w B at_ v l h hhi
  clear h
  cases hr : Bt.rv (Bt.unpack l) at_ with
  | inl er =>
    rw [hr] at HC
    have HC := Lib.hid HC
    clear hr
    have q1 : bits .and .u64 0 1 = 0 := by decide
    have q2 : bits .xor .i64 0 0 = 0 := by decide
    go_enter Try.func28, Try.ntmps28
    go_wp2_with (go_at_call 12; refine Calls.mono (by exact HC.out) ?_; rintro e w1 ⟨rfl, hr1, hg1⟩)
    go_ret2
    exact ⟨rfl, hr1, hg1⟩
  | inr p =>
    obtain ⟨x, a'⟩ := p
    rw [hr] at HC
    have hx := (Bt.rv_ok hr).1
    have HC := Lib.hid HC
    clear hr
    have e1 := and1 x
    have e2 : x % 2 = 0 ∨ x % 2 = 1 := by omega
    have e3 : x / 2 < 9223372036854775808 := by omega
    rcases e2 with e2 | e2
    · have e5 : un x = ((x / 2 : Nat) : Int) := by unfold un; rw [if_pos e2]
      have e4 : bits .xor .i64 ((x : Int) / 2) 0 = un x := by rw [e5]; exact xor_ev (x / 2) e3
      clear e5
      rw [e2] at e1
      clear e2
      go_enter Try.func28, Try.ntmps28
      go_wp2_with (go_at_call 12; refine Calls.mono (by exact HC.out) ?_; rintro e w1 ⟨rfl, hr1, hg1⟩)
      go_ret2
      exact ⟨rfl, hr1, hg1⟩
    · have e5 : un x = -((x / 2 : Nat) : Int) - 1 := by unfold un; rw [if_neg (by omega)]
      have e4 : bits .xor .i64 ((x : Int) / 2) (-1) = un x := by rw [e5]; exact xor_od (x / 2) e3
      clear e5
      rw [e2] at e1
      clear e2
      go_enter Try.func28, Try.ntmps28
      go_wp2_with (go_at_call 12; refine Calls.mono (by exact HC.out) ?_; rintro e w1 ⟨rfl, hr1, hg1⟩)
      go_ret2
      exact ⟨rfl, hr1, hg1⟩
end Go.Proofs.Ytnplcfgjidolbaa
end
section
namespace Go.Proofs.Ytnplcfgjidolbaa
open Go.RowKit

theorem new2_any (w : World) : Calls Try.prog 14 #[] w fun e w' => e = .returned (.pointer (some ⟨w.heap.size, 0, none⟩)) ∧ Wr w' w.heap.size none [] ∧ Below w.heap.size w w' ∧ w'.heap.size = w.heap.size + 1 := by
  refine (new_any w).mono ?_
  rintro e w' ⟨rfl, rfl⟩
  exact ⟨rfl, new_wr w, (Below.refl _ _).alloc (Nat.le_refl _) _, by simp⟩
/-- Varint of a new writer. -/
theorem varint_new (n : Nat) (w : World) (B : Nat) (r : Option Nat) (L : List Bool) (v : Nat) (h : Wr w B r L) (hL : L.length < 1099511627000) (hv : v < 18446744073709551616) (hr : ∀ k, r = some k → n ≤ k) (hB : n ≤ B) (hn : n ≤ w.heap.size) :
    Calls Try.prog 15 #[.pointer (some ⟨B, 0, none⟩), .int .u64 v] w fun e w' => e = .returned (.tuple #[]) ∧ ∃ r', Wr w' B r' (L ++ Bt.vb v) ∧ Below n w w' ∧ (∀ k, r' = some k → n ≤ k) := by
  refine (varint_any w B r L v h hL hv).mono ?_
  rintro e w' ⟨rfl, r', h1, h2, h3⟩
  refine ⟨rfl, r', h1, h2.below hn hB hr, fun k hk => ?_⟩
  rcases h3 k hk with h | h
  · exact hr k h
  · omega

theorem bytes_sl (w : World) (B : Nat) (r : Option Nat) (L : List Bool) (h : Wr w B r L) (hL : L.length < 1099511627776) :
    Calls Try.prog 17 #[.pointer (some ⟨B, 0, none⟩)] w fun e w' => ∃ v', e = .returned v' ∧ Sl w.heap.size w'.heap.size f8 w' v' (Bt.pack L) ∧ Below w.heap.size w w' := by
  refine (bytes_any w B r L h hL).mono ?_
  rintro e w' ⟨v', rfl, ho, hb⟩
  exact ⟨v', rfl, (Sl.owns ho (by have := Bt.pack_len L; omega)).mono (Nat.le_refl _) (Nat.le_refl _), hb⟩

theorem known_bytes : Bt.pack (Bt.vb 300) = [172, 2] := by decide +kernel
theorem known_rv : Bt.rv (Bt.unpack [172, 2]) 0 = .inr (300, 16) := by decide +kernel

set_option maxRecDepth 100000 in
theorem known_any (w : World) : Calls Try.prog 10 #[] w fun e w' => e = .returned (.bool true) ∧ Below w.heap.size w w' := by
  go_enter Try.func10, Try.ntmps10
  go_wp2_with (first
    | (go_at_call 14; refine (new2_any _).mono ?_; rintro e w1 ⟨rfl, hW1, hb1, hs1⟩; have HW1 := Lib.hid hW1; clear hW1)
    | (go_at_call 15; refine Calls.mono (by exact varint_new w.heap.size w1 w.heap.size none [] 300 HW1.out (by decide) (by decide) (by simp) (Nat.le_refl _) (by omega)) ?_; rintro e w2 ⟨rfl, r2, hW2, hb2, hr2⟩; have HW2 := Lib.hid hW2; clear hW2)
    | (go_at_call 17; refine (bytes_sl w2 w.heap.size r2 (Bt.vb 300) HW2.out (by decide +kernel)).mono ?_; rintro e w3 ⟨v3, rfl, hs3, hb3⟩; rw [known_bytes] at hs3; obtain ⟨ao3, cap3, rfl, hc3⟩ := hs3)
    | (go_at_call 11; refine (read_any _ _ w3 _ [172, 2] ⟨ao3, cap3, rfl, hc3⟩ (Nat.le_refl _)).mono ?_; rintro e w4 ⟨B4, v4, hi4, rfl, hB4, hR4, hb4, hh4, hl4⟩; have HR4 := Lib.hid hR4; clear hR4)
    | (go_at_call 12; refine Calls.mono (by have q := rvarint_any _ _ w4 B4 0 v4 [172, 2] HR4.out hh4; rw [known_rv] at q; exact q) ?_; rintro e w5 ⟨rfl, hR5, hg5⟩; have HR5 := Lib.hid hR5; clear hR5)
    | (go_at_call 26; refine (rbit_short _ _ w5 B4 16 v4 [172, 2] HR5.out (by decide)).mono ?_; rintro e w6 ⟨rfl, m6, rfl⟩;
       have hS := hc3.same (w' := w5.drewN m6) (fun k h1 h2 => (hg5.block k (by have := hb4.size; omega) (by omega) (by simp)).trans (hb4.block k h2));
       obtain ⟨b3, o3, rfl, hlo3, hhi3, hcell3⟩ := hS.cells (by decide); have q0 : (w5.drewN m6).cell? ⟨b3, o3, none⟩ = some (.int .u8 172) := hcell3 0 (by decide); have q1 : (w5.drewN m6).cell? ⟨b3, o3 + 1, none⟩ = some (.int .u8 2) := hcell3 1 (by decide);
       clear hcell3 hS))
  go_ret
  have q5 : Below w.heap.size w4 w5 := hg5.below (by have := hb1.size; have := hb2.size; have := hb3.size; have := hb4.size; omega) (by have := hb2.size; have := hb3.size; omega) (by simp)
  refine ⟨rfl, ?_⟩
  have := hb1.size; have := hb2.size; have := hb3.size
  exact ((((hb1.trans hb2).trans (hb3.mono (by omega))).trans (hb4.mono (by omega))).trans ⟨q5.os, q5.tape, q5.output, q5.size, q5.block⟩)
end Go.Proofs.Ytnplcfgjidolbaa
end
