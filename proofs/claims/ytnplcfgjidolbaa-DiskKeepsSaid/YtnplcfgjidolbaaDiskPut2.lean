/- A write: the disk's method. -/
import Derived.Test.YtnplcfgjidolbaaDiskPut
namespace Go.Proofs.Ytnplcfgjidolbaa
open Go.RowKit Go.Maps

/-- What a write leaves, the operation begun. -/
def Dsk.puts (d : Dsk) (a : Int) (s : List UInt8) : Dsk × Int := if a < 0 ∨ (d.ls.length : Int) ≤ a then (d, 2) else if s.length ≠ 256 then (d, 3) else ({ d with cs := d.cs ++ [(a.toNat, s)] }, 0)

set_option maxRecDepth 100000 in
theorem write1_range (w : World) (base B lb bm : Nat) (cv : Value) (d : Dsk) (pa pd pb : Nat) (a : Int) (h : Dk w base B lb bm cv d) (ha : a < 0 ∨ (d.ls.length : Int) ≤ a)
    (ca : w.heap[pa]? = some (.cells #[.int .i64 a] 3 (0, 0))) (cd : w.heap[pd]? = some (.cells #[.pointer (some ⟨B, 0, none⟩)] 92 (0, 0))) :
    Calls Try.prog 89 #[.pointer (some ⟨pa, 0, none⟩), .pointer (some ⟨pd, 0, none⟩), .pointer (some ⟨pb, 0, none⟩)] w fun e w' => e = .returned (.int .u16 2) ∧ Below w.heap.size w w' := by
  obtain ⟨c0, c1, c2, c3, c4, c5, c6, c7, fz⟩ := h.cells
  have p1 : w.cell? ⟨pa, 0, none⟩ = some (.int .i64 a) := (cell_of_row _ _ _ _ _ _ ca).trans rfl
  have p2 : w.cell? ⟨pd, 0, none⟩ = some (.pointer (some ⟨B, 0, none⟩)) := (cell_of_row _ _ _ _ _ _ cd).trans rfl
  clear h ca cd
  rcases Int.lt_or_le a 0 with h0 | h0
  · have g1 : decide (a < 0) = true := decide_eq_true h0
    go_enter Try.func89, Try.ntmps89
    go_wp2
    go_region
    all_goals go_wp2
    go_ret
    exact ⟨rfl, rfl, rfl, rfl, Nat.le_refl _, fun _ _ => rfl⟩
  · have g1 : decide (a < 0) = false := decide_eq_false (by omega)
    have g2 : decide ((d.ls.length : Int) ≤ a) = true := decide_eq_true (by omega)
    go_enter Try.func89, Try.ntmps89
    go_wp2
    go_region
    all_goals go_wp2
    go_ret
    exact ⟨rfl, rfl, rfl, rfl, Nat.le_refl _, fun _ _ => rfl⟩
set_option maxRecDepth 100000 in
theorem write1_len (w : World) (base B lb bm : Nat) (cv : Value) (d : Dsk) (pa pd pb : Nat) (a : Int) (ao : Option Addr) (n cap : Nat) (h : Dk w base B lb bm cv d) (ha : 0 ≤ a ∧ a < (d.ls.length : Int)) (hn : n ≠ 256)
    (ca : w.heap[pa]? = some (.cells #[.int .i64 a] 3 (0, 0))) (cd : w.heap[pd]? = some (.cells #[.pointer (some ⟨B, 0, none⟩)] 92 (0, 0))) (cb : w.heap[pb]? = some (.cells #[.slice ao n cap] 22 (0, 0))) :
    Calls Try.prog 89 #[.pointer (some ⟨pa, 0, none⟩), .pointer (some ⟨pd, 0, none⟩), .pointer (some ⟨pb, 0, none⟩)] w fun e w' => e = .returned (.int .u16 3) ∧ Below w.heap.size w w' := by
  obtain ⟨c0, c1, c2, c3, c4, c5, c6, c7, fz⟩ := h.cells
  have p1 : w.cell? ⟨pa, 0, none⟩ = some (.int .i64 a) := (cell_of_row _ _ _ _ _ _ ca).trans rfl
  have p2 : w.cell? ⟨pd, 0, none⟩ = some (.pointer (some ⟨B, 0, none⟩)) := (cell_of_row _ _ _ _ _ _ cd).trans rfl
  have p3 : w.cell? ⟨pb, 0, none⟩ = some (.slice ao n cap) := (cell_of_row _ _ _ _ _ _ cb).trans rfl
  have g1 : decide (a < 0) = false := decide_eq_false (by omega)
  have g2 : decide ((d.ls.length : Int) ≤ a) = false := decide_eq_false (by omega)
  have g3 : ((n : Int) != 256) = true := by simp; omega
  clear h ca cd cb
  go_enter Try.func89, Try.ntmps89
  go_wp2
  go_region
  all_goals go_wp2
  go_ret
  exact ⟨rfl, rfl, rfl, rfl, Nat.le_refl _, fun _ _ => rfl⟩

theorem write1_any (w : World) (base B lb bm : Nat) (cv : Value) (d : Dsk) (pa pd pb : Nat) (a : Int) (bv : Value) (s : List UInt8) (b0 : Nat) (h : Dk w base B lb bm cv d) (hs : w.ownsRow b0 5 1 bv s.length (s.map f8)) (hn : d.ls.length ≤ 16384) (hc : d.cs.length ≤ 100000000)
    (ca : w.heap[pa]? = some (.cells #[.int .i64 a] 3 (0, 0))) (cd : w.heap[pd]? = some (.cells #[.pointer (some ⟨B, 0, none⟩)] 92 (0, 0))) (cb : w.heap[pb]? = some (.cells #[bv] 22 (0, 0))) :
    Calls Try.prog 89 #[.pointer (some ⟨pa, 0, none⟩), .pointer (some ⟨pd, 0, none⟩), .pointer (some ⟨pb, 0, none⟩)] w fun e w' => e = .returned (.int .u16 (d.puts a s).2) ∧ ∃ cv', Dk w' base B lb bm cv' (d.puts a s).1 ∧ Dfr base w w' := by
  have hsz : base ≤ w.heap.size := by have := h.lo.1; have := heap_lt' h.top; omega
  unfold Dsk.puts
  by_cases ha : a < 0 ∨ (d.ls.length : Int) ≤ a
  · rw [if_pos ha]
    exact (write1_range w base B lb bm cv d pa pd pb a h ha ca cd).mono fun e w' ⟨h1, h2⟩ => ⟨h1, cv, h.below h2, Dfr.ofBelow h2 hsz⟩
  · rw [if_neg ha]
    by_cases hl : s.length = 256
    · rw [if_neg (by omega)]
      obtain ⟨m, rfl⟩ := Int.eq_ofNat_of_zero_le (show 0 ≤ a by omega)
      exact write1_ok w base B lb bm cv d pa pd pb m bv s b0 h hs hl (by omega) hn hc ca cd cb
    · rw [if_pos hl]
      obtain ⟨ao, cap, rfl⟩ := own_slice hs
      exact (write1_len w base B lb bm cv d pa pd pb a ao s.length cap h (by omega) hl ca cd cb).mono fun e w' ⟨h1, h2⟩ => ⟨h1, cv, h.below h2, Dfr.ofBelow h2 hsz⟩

theorem put_eq (d : Dsk) (a : Int) (s : List UInt8) : d.put a s = if (d.begins).2 = false then ((d.begins).1, 4) else ({ (d.begins).1 with wr := (d.begins).1.wr + 1 } : Dsk).puts a s := by
  unfold Dsk.put Dsk.puts
  rfl
end Go.Proofs.Ytnplcfgjidolbaa
