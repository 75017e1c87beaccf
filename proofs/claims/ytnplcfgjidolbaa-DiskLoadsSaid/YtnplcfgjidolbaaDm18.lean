/- An act of both disks: a write. Acts of both disks: flush, cut, pending, image, trip. An argument that is a row of acts. -/
import Derived.Test.YtnplcfgjidolbaaDm17
import Derived.Deep.Grids
import Derived.SizedLaws
section
namespace Go.Proofs.Ytnplcfgjidolbaa
open Go.RowKit Go.Maps

theorem Pr.more {w wr : World} {B lb bm RB BB PB av hi : Nat} {d e : Dsk} {M : Nat} (h : Pr w wr B lb bm RB BB PB av hi d e M) : Pr w wr B lb bm RB BB PB av hi d e (M + 1) := by
  obtain ⟨lv, rcv, vb, vs, ln, vi, us, lm, h2, h3, h4, h5, h6, h7, h8, h9, h10⟩ := h.rb
  exact ⟨h.dk, ⟨lv, rcv, vb, vs, ln, vi, us, lm, h2, h3, h4, h5, by omega, by omega, h8, h9, h10⟩, h.pair, h.lo, h.hav, h.below⟩

set_option maxHeartbeats 4000000 in
set_option maxRecDepth 100000 in
theorem does_write1 {w wr : World} {B lb bm RB BB PB av hi : Nat} {d : Dsk} {M m : Nat} (h : Pr w wr B lb bm RB BB PB av hi d d M) (hb : Bd d m) (hm : m ≤ 5000000) (k : Nat) (hk : k % 8 = 1) (a : Int) (dv kv : Value) (l : List UInt8) (hdv : ∀ w', Below w.heap.size w w' → Sl 0 w'.heap.size f8 w' dv l) :
    Calls Try.prog 95 #[.pointer (some ⟨PB, 0, none⟩), .agg #[.int .u8 (k : Int), .int .i64 a, dv, kv]] wr fun x w' => x = .returned (.bool true) ∧ ∃ av hi, Pr w w' B lb bm RB BB PB av hi (d.put a l).1 (d.put a l).1 (M + 1) := by
  have g0 : (((k : Int) % 8) == 0) = false := by simp; omega
  have g1 : (((k : Int) % 8) == 1) = true := by simp; omega
  have hp0 := h.step ((Below.refl _ _).alloc (Nat.le_refl _) (.cells #[.int .u8 (k : Int), .int .i64 a, dv, kv] 178))
  have hbx0 := heap_alloc_new wr (.cells #[.int .u8 (k : Int), .int .i64 a, dv, kv] 178)
  obtain ⟨x0, x1, x2, x3⟩ := box_cells hbx0
  have hll := (hdv wr h.below).len
  have HP0 := Lib.hid hp0
  have HBX0 := Lib.hid hbx0
  have HSM := Lib.hid (hb.small (by omega))
  have HT := Lib.hid hb.trip.1
  have HDV := Lib.hid hdv
  clear h hp0 hbx0 hb hk hdv
  go_enter Try.func95, Try.ntmps95
  go_wp2_with (go_at_call 45; refine (lent_any 0 _ _ dv l (HDV.out _ HP0.out.below) (Nat.le_refl _)).mono ?_; rintro e1 w1 ⟨g, rfl, hge, hbk, hb1⟩; have hp1 := (HP0.out.reset g hge).step hb1; have hbx1 := (hb1.block _ (heap_lt' HBX0.out)).trans HBX0.out; obtain ⟨z0, z1, -⟩ := pair_cells hp1.pair; obtain ⟨u0, u1, u2, -⟩ := box_cells hbx1; have HP1 := Lib.hid hp1; have HBK1 := Lib.hid hbk; have HBX1 := Lib.hid hbx1; have HGE := Lib.hid hge; clear hp1 hbk hb1 hbx1 hge x0 x1 x2 x3)
  go_region_held3 (fun w' => w'.cell? ⟨PB, 0, none⟩ = some (.pointer (some ⟨B, 0, none⟩)) ∧ w'.cell? ⟨wr.heap.size, 1, none⟩ = some (.int .i64 a)) (first | assumption | exact ⟨by assumption, by assumption⟩) (first | (go_at_call 32; refine (p_write (HP1.out.step (drew_b _)) HSM.out a _ l g (lent_own hll HBK1.out)).mono ?_; rintro e1 w2 ⟨rfl, hp2, ha2⟩; have hbx2 := ha2.box HBX1.out; have hbk2 := (ha2.keep g _ _ _ HBK1.out (by decide) (by decide) (by decide) (by decide) (by decide) (by decide) (by decide) (by decide)).trans HBK1.out; obtain ⟨z0, z1, -⟩ := pair_cells hp2.pair; obtain ⟨u0, u1, u2, -⟩ := box_cells hbx2; have HP2 := Lib.hid hp2; have HBX2 := Lib.hid hbx2; have HBK2 := Lib.hid hbk2; clear hp2 ha2 hbx2 hbk2))
  go_wp2_with fail
  go_region_held3 (fun w' => w'.cell? ⟨PB, 1, none⟩ = some (.pointer (some ⟨RB, 0, none⟩)) ∧ w'.cell? ⟨wr.heap.size, 1, none⟩ = some (.int .i64 a) ∧ w'.cell? ⟨wr.heap.size, 2, none⟩ = some dv) (first | assumption | exact ⟨by assumption, by assumption, by assumption⟩) (first | (go_at_call 99; refine (r_write (HP2.out.step (drew_b _)) HSM.out HT.out a dv l HDV.out (heap_lt' HBK2.out)).mono ?_; rintro e1 w3 ⟨rfl, hp3, ha3⟩; have hbx3 := ha3.box HBX2.out; have hbk3 := (ha3.keep g _ _ _ HBK2.out (by decide) (by decide) (by decide) (by decide) (by decide) (by decide) (by decide) (by decide)).trans HBK2.out; obtain ⟨z3, z4, -⟩ := pair_cells hp3.pair; obtain ⟨-, u4, u5, -⟩ := box_cells hbx3; have HP3 := Lib.hid hp3; have HBK3 := Lib.hid hbk3; clear hp3 ha3 hbx3 hbk3))
  have hsm : sameB l l = true := sameB_refl l
  go_wp2_with (first
    | (go_at_call 49; refine (spoil_any g (l.length + 2) _ _ (by omega) (by simp) (HBK4.out) l.length).mono ?_; rintro e1 w5 ⟨rfl, hg5⟩; have HG5 := Lib.hid hg5; clear hg5)
    | (go_at_call 48; refine (whole_any 0 _ g w3 dv l l hll HBK3.out (HDV.out _ HP3.out.below)).mono ?_; rintro e1 w4 ⟨rfl, n4, rfl⟩; have HBK4 := Lib.hid (show (w3.drewN n4).heap[g]? = some (.cells (l.map f8 ++ [Value.int .u8 91, Value.int .u8 92]).toArray 5 (0, 0)) from HBK3.out)))
  go_ret
  exact ⟨rfl, _, _, (((HP3.out.step (drewN_b _ _)).spoil HBK4.out (.inr ⟨rfl, rfl⟩) (Nat.le_trans HP0.out.below.size HGE.out) HG5.out)).more⟩

set_option maxHeartbeats 4000000 in
set_option maxRecDepth 100000 in
theorem does_write2 {w wr : World} {B lb bm RB BB PB av hi : Nat} {d : Dsk} {M m : Nat} (h : Pr w wr B lb bm RB BB PB av hi d d M) (hb : Bd d m) (hm : m ≤ 5000000) (k : Nat) (hk : k % 8 = 2) (a : Int) (dv kv : Value) (l : List UInt8) (hdv : ∀ w', Below w.heap.size w w' → Sl 0 w'.heap.size f8 w' dv l) :
    Calls Try.prog 95 #[.pointer (some ⟨PB, 0, none⟩), .agg #[.int .u8 (k : Int), .int .i64 a, dv, kv]] wr fun x w' => x = .returned (.bool true) ∧ ∃ av hi, Pr w w' B lb bm RB BB PB av hi (d.put a l).1 (d.put a l).1 (M + 1) := by
  have g0 : (((k : Int) % 8) == 0) = false := by simp; omega
  have g1 : (((k : Int) % 8) == 1) = false := by simp; omega
  have g2 : (((k : Int) % 8) == 2) = true := by simp; omega
  have hp0 := h.step ((Below.refl _ _).alloc (Nat.le_refl _) (.cells #[.int .u8 (k : Int), .int .i64 a, dv, kv] 178))
  have hbx0 := heap_alloc_new wr (.cells #[.int .u8 (k : Int), .int .i64 a, dv, kv] 178)
  obtain ⟨x0, x1, x2, x3⟩ := box_cells hbx0
  have hll := (hdv wr h.below).len
  have HP0 := Lib.hid hp0
  have HBX0 := Lib.hid hbx0
  have HSM := Lib.hid (hb.small (by omega))
  have HT := Lib.hid hb.trip.1
  have HDV := Lib.hid hdv
  clear h hp0 hbx0 hb hk hdv
  go_enter Try.func95, Try.ntmps95
  go_wp2_with (go_at_call 45; refine (lent_any 0 _ _ dv l (HDV.out _ HP0.out.below) (Nat.le_refl _)).mono ?_; rintro e1 w1 ⟨g, rfl, hge, hbk, hb1⟩; have hp1 := (HP0.out.reset g hge).step hb1; have hbx1 := (hb1.block _ (heap_lt' HBX0.out)).trans HBX0.out; obtain ⟨z0, z1, -⟩ := pair_cells hp1.pair; obtain ⟨u0, u1, u2, -⟩ := box_cells hbx1; have HP1 := Lib.hid hp1; have HBK1 := Lib.hid hbk; have HBX1 := Lib.hid hbx1; have HGE := Lib.hid hge; clear hp1 hbk hb1 hbx1 hge x0 x1 x2 x3)
  go_region_held3 (fun w' => w'.cell? ⟨PB, 0, none⟩ = some (.pointer (some ⟨B, 0, none⟩)) ∧ w'.cell? ⟨wr.heap.size, 1, none⟩ = some (.int .i64 a)) (first | assumption | exact ⟨by assumption, by assumption⟩) (first | (go_at_call 32; refine (p_write (HP1.out.step (drew_b _)) HSM.out a _ l g (lent_own hll HBK1.out)).mono ?_; rintro e1 w2 ⟨rfl, hp2, ha2⟩; have hbx2 := ha2.box HBX1.out; have hbk2 := (ha2.keep g _ _ _ HBK1.out (by decide) (by decide) (by decide) (by decide) (by decide) (by decide) (by decide) (by decide)).trans HBK1.out; obtain ⟨z0, z1, -⟩ := pair_cells hp2.pair; obtain ⟨u0, u1, u2, -⟩ := box_cells hbx2; have HP2 := Lib.hid hp2; have HBX2 := Lib.hid hbx2; have HBK2 := Lib.hid hbk2; clear hp2 ha2 hbx2 hbk2))
  go_wp2_with fail
  go_region_held3 (fun w' => w'.cell? ⟨PB, 1, none⟩ = some (.pointer (some ⟨RB, 0, none⟩)) ∧ w'.cell? ⟨wr.heap.size, 1, none⟩ = some (.int .i64 a) ∧ w'.cell? ⟨wr.heap.size, 2, none⟩ = some dv) (first | assumption | exact ⟨by assumption, by assumption, by assumption⟩) (first | (go_at_call 99; refine (r_write (HP2.out.step (drew_b _)) HSM.out HT.out a dv l HDV.out (heap_lt' HBK2.out)).mono ?_; rintro e1 w3 ⟨rfl, hp3, ha3⟩; have hbx3 := ha3.box HBX2.out; have hbk3 := (ha3.keep g _ _ _ HBK2.out (by decide) (by decide) (by decide) (by decide) (by decide) (by decide) (by decide) (by decide)).trans HBK2.out; obtain ⟨z3, z4, -⟩ := pair_cells hp3.pair; obtain ⟨-, u4, u5, -⟩ := box_cells hbx3; have HP3 := Lib.hid hp3; have HBK3 := Lib.hid hbk3; clear hp3 ha3 hbx3 hbk3))
  have hsm : sameB l l = true := sameB_refl l
  go_wp2_with (first
    | (go_at_call 49; refine (spoil_any g (l.length + 2) _ _ (by omega) (by simp) (HBK4.out) l.length).mono ?_; rintro e1 w5 ⟨rfl, hg5⟩; have HG5 := Lib.hid hg5; clear hg5)
    | (go_at_call 48; refine (whole_any 0 _ g w3 dv l l hll HBK3.out (HDV.out _ HP3.out.below)).mono ?_; rintro e1 w4 ⟨rfl, n4, rfl⟩; have HBK4 := Lib.hid (show (w3.drewN n4).heap[g]? = some (.cells (l.map f8 ++ [Value.int .u8 91, Value.int .u8 92]).toArray 5 (0, 0)) from HBK3.out)))
  go_ret
  exact ⟨rfl, _, _, (((HP3.out.step (drewN_b _ _)).spoil HBK4.out (.inr ⟨rfl, rfl⟩) (Nat.le_trans HP0.out.below.size HGE.out) HG5.out)).more⟩
end Go.Proofs.Ytnplcfgjidolbaa
end
section
namespace Go.Proofs.Ytnplcfgjidolbaa
open Go.RowKit Go.Maps

set_option maxHeartbeats 4000000 in
set_option maxRecDepth 100000 in
theorem does_flush {w wr : World} {B lb bm RB BB PB av hi : Nat} {d : Dsk} {M m : Nat} (h : Pr w wr B lb bm RB BB PB av hi d d M) (hb : Bd d m) (hm : m ≤ 5000000) (k : Nat) (hk : k % 8 = 3) (a : Int) (dv kv : Value) :
    Calls Try.prog 95 #[.pointer (some ⟨PB, 0, none⟩), .agg #[.int .u8 (k : Int), .int .i64 a, dv, kv]] wr fun x w' => x = .returned (.bool true) ∧ ∃ av hi, Pr w w' B lb bm RB BB PB av hi d.flushed.1 d.flushed.1 (M + 1) := by
  have g0 : (((k : Int) % 8) == 0) = false := by simp; omega
  have g1 : (((k : Int) % 8) == 1) = false := by simp; omega
  have g2 : (((k : Int) % 8) == 2) = false := by simp; omega
  have g3 : (((k : Int) % 8) == 3) = true := by simp; omega
  have hp0 := (h.reset wr.heap.size (Nat.le_refl _)).step ((Below.refl _ _).alloc (Nat.le_refl _) (.cells #[.int .u8 (k : Int), .int .i64 a, dv, kv] 178))
  have hbx0 := heap_alloc_new wr (.cells #[.int .u8 (k : Int), .int .i64 a, dv, kv] 178)
  obtain ⟨x0, x1, x2, x3⟩ := box_cells hbx0
  obtain ⟨y0, y1, y2⟩ := pair_cells hp0.pair
  have HP0 := Lib.hid hp0
  have HBX0 := Lib.hid hbx0
  have HSM := Lib.hid (hb.small (by omega))
  have HT := Lib.hid hb.trip.1
  clear h hp0 hbx0 hb hk
  go_enter Try.func95, Try.ntmps95
  go_wp2_with fail
  go_region_held3 (fun w' => w'.cell? ⟨PB, 0, none⟩ = some (.pointer (some ⟨B, 0, none⟩)) ∧ w'.cell? ⟨PB, 1, none⟩ = some (.pointer (some ⟨RB, 0, none⟩))) (first | assumption | exact ⟨by assumption, by assumption⟩ | exact ⟨by assumption, by assumption, by assumption⟩) (first
    | (go_at_call 40; refine (p_flush (HP0.out.step (drew_b _)) HSM.out).mono ?_; rintro e1 w1 ⟨rfl, hp1, ha1⟩; obtain ⟨z0, z1, -⟩ := pair_cells hp1.pair; have HP1 := Lib.hid hp1; clear hp1 ha1)
    | (go_at_call 100; refine (r_flush HP1.out HSM.out HT.out).mono ?_; rintro e1 w2 ⟨rfl, hp2, ha2⟩; obtain ⟨v0, v1, -⟩ := pair_cells hp2.pair; have HP2 := Lib.hid hp2; clear hp2 ha2))
  go_wp2
  go_ret
  exact ⟨rfl, _, _, HP2.out.more⟩
set_option maxHeartbeats 4000000 in
set_option maxRecDepth 100000 in
theorem does_trip {w wr : World} {B lb bm RB BB PB av hi : Nat} {d : Dsk} {M m : Nat} (h : Pr w wr B lb bm RB BB PB av hi d d M) (hb : Bd d m) (hm : m ≤ 5000000) (k : Nat) (hk : k % 8 = 7) (a : Int) (dv kv : Value) :
    Calls Try.prog 95 #[.pointer (some ⟨PB, 0, none⟩), .agg #[.int .u8 (k : Int), .int .i64 a, dv, kv]] wr fun x w' => x = .returned (.bool true) ∧ ∃ av hi, Pr w w' B lb bm RB BB PB av hi (d.tripped a).1 (d.tripped a).1 (M + 1) := by
  have g0 : (((k : Int) % 8) == 0) = false := by simp; omega
  have g1 : (((k : Int) % 8) == 1) = false := by simp; omega
  have g2 : (((k : Int) % 8) == 2) = false := by simp; omega
  have g3 : (((k : Int) % 8) == 3) = false := by simp; omega
  have g4 : (((k : Int) % 8) == 4) = false := by simp; omega
  have g5 : (((k : Int) % 8) == 5) = false := by simp; omega
  have g6 : (((k : Int) % 8) == 6) = false := by simp; omega
  have hp0 := (h.reset wr.heap.size (Nat.le_refl _)).step ((Below.refl _ _).alloc (Nat.le_refl _) (.cells #[.int .u8 (k : Int), .int .i64 a, dv, kv] 178))
  have hbx0 := heap_alloc_new wr (.cells #[.int .u8 (k : Int), .int .i64 a, dv, kv] 178)
  obtain ⟨x0, x1, x2, x3⟩ := box_cells hbx0
  obtain ⟨y0, y1, y2⟩ := pair_cells hp0.pair
  have HP0 := Lib.hid hp0
  have HBX0 := Lib.hid hbx0
  have HSM := Lib.hid (hb.small (by omega))
  have HT := Lib.hid hb.trip.1
  clear h hp0 hbx0 hb hk
  go_enter Try.func95, Try.ntmps95
  go_wp2_with fail
  go_region_held3 (fun w' => w'.cell? ⟨PB, 0, none⟩ = some (.pointer (some ⟨B, 0, none⟩)) ∧ w'.cell? ⟨PB, 1, none⟩ = some (.pointer (some ⟨RB, 0, none⟩)) ∧ w'.cell? ⟨wr.heap.size, 1, none⟩ = some (.int .i64 a)) (first | assumption | exact ⟨by assumption, by assumption⟩ | exact ⟨by assumption, by assumption, by assumption⟩) (first
    | (go_at_call 31; refine (p_trip (HP0.out.step (drew_b _)) a).mono ?_; rintro e1 w1 ⟨rfl, hp1, ha1⟩; have hbx1 := ha1.box HBX0.out; obtain ⟨-, u1, -, -⟩ := box_cells hbx1; obtain ⟨z0, z1, -⟩ := pair_cells hp1.pair; have HP1 := Lib.hid hp1; have HBX1 := Lib.hid hbx1; clear hp1 ha1 hbx1)
    | (go_at_call 108; refine (r_trip HP1.out a).mono ?_; rintro e1 w2 ⟨rfl, hp2, ha2⟩; have hbx2 := ha2.box HBX1.out; obtain ⟨-, t1, -, -⟩ := box_cells hbx2; obtain ⟨v0, v1, -⟩ := pair_cells hp2.pair; have HP2 := Lib.hid hp2; clear hp2 ha2 hbx2))
  go_wp2
  go_ret
  exact ⟨rfl, _, _, HP2.out.more⟩
set_option maxHeartbeats 4000000 in
set_option maxRecDepth 100000 in
theorem does_image {w wr : World} {B lb bm RB BB PB av hi : Nat} {d : Dsk} {M m : Nat} (h : Pr w wr B lb bm RB BB PB av hi d d M) (hb : Bd d m) (hm : m ≤ 5000000) (hM : M ≤ 5000000) (k : Nat) (hk : k % 8 = 6) (a : Int) (dv kv : Value) :
    Calls Try.prog 95 #[.pointer (some ⟨PB, 0, none⟩), .agg #[.int .u8 (k : Int), .int .i64 a, dv, kv]] wr fun x w' => x = .returned (.bool true) ∧ ∃ av hi, Pr w w' B lb bm RB BB PB av hi d d (M + 1) := by
  have g0 : (((k : Int) % 8) == 0) = false := by simp; omega
  have g1 : (((k : Int) % 8) == 1) = false := by simp; omega
  have g2 : (((k : Int) % 8) == 2) = false := by simp; omega
  have g3 : (((k : Int) % 8) == 3) = false := by simp; omega
  have g4 : (((k : Int) % 8) == 4) = false := by simp; omega
  have g5 : (((k : Int) % 8) == 5) = false := by simp; omega
  have g6 : (((k : Int) % 8) == 6) = true := by simp; omega
  have hp0 := (h.reset wr.heap.size (Nat.le_refl _)).step ((Below.refl _ _).alloc (Nat.le_refl _) (.cells #[.int .u8 (k : Int), .int .i64 a, dv, kv] 178))
  have hbx0 := heap_alloc_new wr (.cells #[.int .u8 (k : Int), .int .i64 a, dv, kv] 178)
  obtain ⟨x0, x1, x2, x3⟩ := box_cells hbx0
  obtain ⟨y0, y1, y2⟩ := pair_cells hp0.pair
  have HP0 := Lib.hid hp0
  have HBX0 := Lib.hid hbx0
  have HSM := Lib.hid (hb.small (by omega))
  have HT := Lib.hid hb.trip.1
  have HLS := Lib.hid hb.ls
  clear h hp0 hbx0 hb hk
  go_enter Try.func95, Try.ntmps95
  go_wp2_with (first
    | (go_at_call 16; refine (same_any _ _ _ _ _ _ _ _ _ (Sl.owns HO3.out HFL.out) (Sl.owns HOR.out HFL.out)).mono ?_; rintro e1 w4 ⟨rfl, n4, rfl⟩)
    | (go_at_call 107; refine (r_image HP2.out HLS.out).mono ?_; rintro e1 w3 ⟨v3, rfl, ho3, _, hp3, ha3⟩; have HP3 := Lib.hid hp3; have HOR := Lib.hid ho3; have HO3 := Lib.hid (ha3.own HO2.out (.inl rfl)); clear hp3 ha3 ho3)
    | (go_at_call 20; refine (b_bytes HP1.out (own_low HO1.out (by have := HP0.out.below.size; simpa using this)) (fun q hq => by have := (HO1.out.lt q hq).1; simp at this; omega) (by have := HFL.out; have := HFE.out; have := HLS.out; omega) (by omega)).mono ?_; rintro e1 w2 ⟨rfl, hp2, ha2⟩; obtain ⟨v0, v1, -⟩ := pair_cells hp2.pair; have HP2 := Lib.hid hp2; have HO2 := Lib.hid (ha2.own HO1.out (.inl rfl)); clear hp2 ha2)
    | (go_at_call 41; refine (p_image HP0.out HLS.out).mono ?_; rintro e1 w1 ⟨v1, rfl, ho1, hf1, hp1, ha1⟩; obtain ⟨z0, z1, z2⟩ := pair_cells hp1.pair; have HP1 := Lib.hid hp1; have HO1 := Lib.hid ho1; have HFE := Lib.hid hf1; have HFL := Lib.hid (show d.ls.flatten.length ≤ 140737488355328 by have := HLS.out; omega); clear hp1 ha1 ho1 hf1))
  go_ret
  rw [sameB_refl]
  exact ⟨rfl, _, _, HP3.out.step (drewN_b _ _)⟩
theorem pend_sl {W : World} {b0 : Nat} {v : Value} {d : Dsk} (h : W.ownsRow b0 3 1 v d.cs.length (d.cs.map fun c => fN c.1)) (hc : d.cs.length ≤ 100000000) : Sl b0 W.heap.size fI W v (d.cs.map fun c => (c.1 : Int)) := by
  have e : W.ownsRow b0 3 1 v (d.cs.map fun c => (c.1 : Int)).length ((d.cs.map fun c => (c.1 : Int)).map fI) := by
    rw [List.map_map, List.length_map]
    exact h
  exact Sl.owns e (by rw [List.length_map]; omega)
theorem sameI_refl (l : List Int) : sameI l l = true := by simp [sameI]
set_option maxHeartbeats 4000000 in
set_option maxRecDepth 100000 in
theorem does_pending {w wr : World} {B lb bm RB BB PB av hi : Nat} {d : Dsk} {M m : Nat} (h : Pr w wr B lb bm RB BB PB av hi d d M) (hb : Bd d m) (hm : m ≤ 5000000) (hM : M ≤ 5000000) (k : Nat) (hk : k % 8 = 5) (a : Int) (dv kv : Value) :
    Calls Try.prog 95 #[.pointer (some ⟨PB, 0, none⟩), .agg #[.int .u8 (k : Int), .int .i64 a, dv, kv]] wr fun x w' => x = .returned (.bool true) ∧ ∃ av hi, Pr w w' B lb bm RB BB PB av hi d d (M + 1) := by
  have g0 : (((k : Int) % 8) == 0) = false := by simp; omega
  have g1 : (((k : Int) % 8) == 1) = false := by simp; omega
  have g2 : (((k : Int) % 8) == 2) = false := by simp; omega
  have g3 : (((k : Int) % 8) == 3) = false := by simp; omega
  have g4 : (((k : Int) % 8) == 4) = false := by simp; omega
  have g5 : (((k : Int) % 8) == 5) = true := by simp; omega
  have hp0 := (h.reset wr.heap.size (Nat.le_refl _)).step ((Below.refl _ _).alloc (Nat.le_refl _) (.cells #[.int .u8 (k : Int), .int .i64 a, dv, kv] 178))
  have hbx0 := heap_alloc_new wr (.cells #[.int .u8 (k : Int), .int .i64 a, dv, kv] 178)
  obtain ⟨x0, x1, x2, x3⟩ := box_cells hbx0
  obtain ⟨y0, y1, y2⟩ := pair_cells hp0.pair
  have HP0 := Lib.hid hp0
  have HBX0 := Lib.hid hbx0
  have HSM := Lib.hid (hb.small (by omega))
  have HT := Lib.hid hb.trip.1
  have HCS := Lib.hid (show d.cs.length ≤ 100000000 by have := hb.cs; omega)
  clear h hp0 hbx0 hb hk
  go_enter Try.func95, Try.ntmps95
  go_wp2_with (first
    | (go_at_call 37; refine (sameI_any _ _ _ _ _ _ _ _ _ (pend_sl HO3.out HCS.out) (pend_sl HOR.out HCS.out)).mono ?_; rintro e1 w4 ⟨rfl, n4, rfl⟩)
    | (go_at_call 106; refine (r_pending HP2.out HCS.out).mono ?_; rintro e1 w3 ⟨v3, rfl, ho3, hp3, ha3⟩; have HP3 := Lib.hid hp3; have HOR := Lib.hid ho3; have HO3 := Lib.hid (ha3.own HO2.out (.inr rfl)); clear hp3 ha3 ho3)
    | (go_at_call 105; refine (b_ints HP1.out (own_low HO1.out (by have := HP0.out.below.size; simpa using this)) (fun q hq => by have := (HO1.out.lt q hq).1; simp at this; omega) (by have := HCS.out; omega) (by omega)).mono ?_; rintro e1 w2 ⟨rfl, hp2, ha2⟩; obtain ⟨v0, v1, -⟩ := pair_cells hp2.pair; have HP2 := Lib.hid hp2; have HO2 := Lib.hid (ha2.own HO1.out (.inr rfl)); clear hp2 ha2)
    | (go_at_call 35; refine (p_pending HP0.out HCS.out).mono ?_; rintro e1 w1 ⟨v1, rfl, ho1, hp1, ha1⟩; obtain ⟨z0, z1, z2⟩ := pair_cells hp1.pair; have HP1 := Lib.hid hp1; have HO1 := Lib.hid ho1; clear hp1 ha1 ho1))
  go_ret
  rw [sameI_refl]
  exact ⟨rfl, _, _, HP3.out.step (drewN_b _ _)⟩
theorem sameBs_refl (l : List Bool) : sameBs l l = true := by simp [sameBs]
theorem lentB_keep {w W : World} {base g : Nat} {l : List Bool} (hl : l.length ≤ 140737488355328) (h : w.heap[g]? = some (.cells (l.map fB ++ [Value.bool true, Value.bool false]).toArray 4 (0, 0))) (hf : Dfr base w W) : Sl 0 W.heap.size fB W (.slice (some ⟨g, 0, none⟩) l.length (l.length + 2)) l := by
  have h2 := (hf.keep g _ _ _ h (by decide) (by decide) (by decide)).trans h
  exact (lentB_sl hl h2).mono (Nat.zero_le _) (heap_lt' h2)
set_option maxHeartbeats 4000000 in
set_option maxRecDepth 100000 in
theorem does_cut {w wr : World} {B lb bm RB BB PB av hi : Nat} {d : Dsk} {M m : Nat} (h : Pr w wr B lb bm RB BB PB av hi d d M) (hb : Bd d m) (hm : m ≤ 5000000) (k : Nat) (hk : k % 8 = 4) (a : Int) (dv kv : Value) (l : List Bool) (hkv : ∀ w', Below w.heap.size w w' → Sl 0 w'.heap.size fB w' kv l) :
    Calls Try.prog 95 #[.pointer (some ⟨PB, 0, none⟩), .agg #[.int .u8 (k : Int), .int .i64 a, dv, kv]] wr fun x w' => x = .returned (.bool true) ∧ ∃ av hi, Pr w w' B lb bm RB BB PB av hi (d.cutBy l) (d.cutBy l) (M + 1) := by
  have g0 : (((k : Int) % 8) == 0) = false := by simp; omega
  have g1 : (((k : Int) % 8) == 1) = false := by simp; omega
  have g2 : (((k : Int) % 8) == 2) = false := by simp; omega
  have g3 : (((k : Int) % 8) == 3) = false := by simp; omega
  have g4 : (((k : Int) % 8) == 4) = true := by simp; omega
  have hp0 := (h.reset wr.heap.size (Nat.le_refl _)).step ((Below.refl _ _).alloc (Nat.le_refl _) (.cells #[.int .u8 (k : Int), .int .i64 a, dv, kv] 178))
  have hbx0 := heap_alloc_new wr (.cells #[.int .u8 (k : Int), .int .i64 a, dv, kv] 178)
  obtain ⟨x0, x1, x2, x3⟩ := box_cells hbx0
  obtain ⟨y0, y1, y2⟩ := pair_cells hp0.pair
  have HP0 := Lib.hid hp0
  have HBX0 := Lib.hid hbx0
  have HSM := Lib.hid (hb.small (by omega))
  have HT := Lib.hid hb.trip.1
  have hll := (hkv wr h.below).len
  have HCS := Lib.hid (show d.cs.length ≤ 100000000 by have := hb.cs; omega)
  have HKV := Lib.hid hkv
  clear h hp0 hbx0 hb hk hkv
  go_enter Try.func95, Try.ntmps95
  have hsm : sameBs l l = true := sameBs_refl l
  go_wp2_with (first
    | (go_at_call 38; refine (p_cut HP1.out HCS.out _ l (fun W hW => lentB_keep hll HBK1.out hW)).mono ?_; rintro e1 w2 ⟨rfl, hp2, hf2⟩; have hbx2 := (Afr.ofDfr hf2).box HBX1.out; have hbk2 := (hf2.keep g _ _ _ HBK1.out (by decide) (by decide) (by decide)).trans HBK1.out; obtain ⟨v0, v1, -⟩ := pair_cells hp2.pair; obtain ⟨-, -, -, t3⟩ := box_cells hbx2; have HP2 := Lib.hid hp2; have HBX2 := Lib.hid hbx2; have HBK2 := Lib.hid hbk2; clear hp2 hf2 hbx2 hbk2)
    | (go_at_call 101; refine (lentB_any 0 _ _ kv l (HKV.out _ HP0.out.below) (Nat.le_refl _)).mono ?_; rintro e1 w1 ⟨g, rfl, hge, hbk, hb1⟩; have hp1 := HP0.out.step hb1; have hbx1 := (hb1.block _ (heap_lt' HBX0.out)).trans HBX0.out; obtain ⟨z0, z1, -⟩ := pair_cells hp1.pair; obtain ⟨u0, u1, u2, u3⟩ := box_cells hbx1; have HP1 := Lib.hid hp1; have HBK1 := Lib.hid hbk; have HBX1 := Lib.hid hbx1; have HGE := Lib.hid hge; clear hp1 hbk hb1 hbx1 hge x0 x1 x2 x3 y0 y1 y2))
  go_region_held3 (fun w' => w'.cell? ⟨PB, 1, none⟩ = some (.pointer (some ⟨RB, 0, none⟩)) ∧ w'.cell? ⟨wr.heap.size, 3, none⟩ = some kv) (first | assumption | exact ⟨by assumption, by assumption⟩ | exact ⟨by assumption, by assumption, by assumption⟩) (first
    | (go_at_call 102; refine (r_cut (HP2.out.step (drew_b _)) HCS.out kv l HKV.out).mono ?_; rintro e1 w3 ⟨rfl, hp3, ha3, hk3⟩; have hbx3 := ha3.box HBX2.out; have hbk3 := (hk3 g _ _ HBK2.out).trans HBK2.out; obtain ⟨-, z4, -⟩ := pair_cells hp3.pair; obtain ⟨-, -, -, u6⟩ := box_cells hbx3; have HP3 := Lib.hid hp3; have HBK3 := Lib.hid hbk3; clear hp3 ha3 hbx3 hbk3 hk3))
  go_wp2_with (first
    | (go_at_call 104; refine (spoilB_any g (l.length + 2) _ _ (by omega) (by simp) (HBK4.out) l.length).mono ?_; rintro e1 w5 ⟨rfl, hg5⟩; have HG5 := Lib.hid hg5; clear hg5)
    | (go_at_call 103; refine (wholeB_any 0 _ g w3 kv l l hll HBK3.out (HKV.out _ HP3.out.below)).mono ?_; rintro e1 w4 ⟨rfl, n4, rfl⟩; have HBK4 := Lib.hid (show (w3.drewN n4).heap[g]? = some (.cells (l.map fB ++ [Value.bool true, Value.bool false]).toArray 4 (0, 0)) from HBK3.out)))
  go_ret
  exact ⟨rfl, _, _, (((HP3.out.step (drewN_b _ _)).spoil HBK4.out (.inl rfl) (Nat.le_trans HP0.out.below.size HGE.out) HG5.out)).more⟩
end Go.Proofs.Ytnplcfgjidolbaa
end
section
namespace Go.Proofs.Ytnplcfgjidolbaa
open Go.RowKit Go.ChangeShapes Go.WideShapes

/-- An act: its kind, its sector, its bytes, what is kept; where these lie. -/
structure Actv where
  k : Nat
  at_ : Int
  data : List UInt8
  keep : List Bool
  da : Option Addr
  dc : Nat
  ka : Option Addr
  kc : Nat

/-- An act's four cells. -/
structure ActAt (hi : Nat) (w : World) (b o : Nat) (x : Actv) : Prop where
  c0 : w.cell? ⟨b, o, none⟩ = some (.int .u8 (x.k : Int))
  c1 : w.cell? ⟨b, o + 1, none⟩ = some (.int .i64 x.at_)
  c2 : w.cell? ⟨b, o + 2, none⟩ = some (.slice x.da x.data.length x.dc)
  c3 : w.cell? ⟨b, o + 3, none⟩ = some (.slice x.ka x.keep.length x.kc)
  k : x.k < 256
  at_ : -9223372036854775808 ≤ x.at_ ∧ x.at_ ≤ 9223372036854775807
  data : SlC 0 hi f8 w x.da x.dc x.data
  keep : SlC 0 hi fB w x.ka x.kc x.keep

/-- The slice v has the acts l. -/
structure Acts (hi : Nat) (w : World) (ao : Option Addr) (cap : Nat) (l : List Actv) : Prop where
  len : l.length ≤ maxLen
  cells : l ≠ [] → ∃ b off, ao = some ⟨b, off, none⟩ ∧ b < hi ∧ ∀ j (h : j < l.length), ActAt hi w b (off + j * 4) l[j]

theorem Acts.below {hi B : Nat} {w w' : World} {ao : Option Addr} {cap : Nat} {l : List Actv} (h : Acts hi w ao cap l) (hb : Below B w w') (hh : hi ≤ B) : Acts hi w' ao cap l := by
  refine ⟨h.len, fun hne => ?_⟩
  obtain ⟨b, off, h1, h2, h3⟩ := h.cells hne
  refine ⟨b, off, h1, h2, fun j hj => ?_⟩
  have q := h3 j hj
  have e : w'.heap[b]? = w.heap[b]? := hb.block b (by omega)
  have ec : ∀ o, w'.cell? ⟨b, o, none⟩ = w.cell? ⟨b, o, none⟩ := fun o => World.cell?_of_block e
  exact ⟨(ec _).trans q.c0, (ec _).trans q.c1, (ec _).trans q.c2, (ec _).trans q.c3, q.k, q.at_, q.data.below hb hh, q.keep.below hb hh⟩

theorem weights_all {H : Type} {P : Program} {e : TypeId} : ∀ {l : List (DataW H)} {d : DataW H}, d ∈ l → ∀ n ∈ d.weights P e, n ∈ DataW.weightsAll P e l
  | d' :: r, d, hd, n, hn => by
    simp only [DataW.weightsAll, List.mem_append]
    rcases List.mem_cons.1 hd with rfl | h
    · exact Or.inl hn
    · exact Or.inr (weights_all h n hn)
theorem weights_elem {H : Type} {P : Program} {t e : TypeId} {elems spare : List (DataW H)} (hu : P.underlying t = some (.slice e)) {d : DataW H} (hd : d ∈ elems) : ∀ n ∈ d.weights P e, n ∈ (DataW.slice elems spare).weights P t := by
  intro n hn
  simp only [DataW.weights, hu, List.mem_cons, List.mem_append]
  exact Or.inr (Or.inl (weights_all hd n hn))
theorem weights_field {H : Type} {P : Program} {t : TypeId} {fs : Array Field} {parts : List (DataW H)} (hu : P.underlying t = some (.struct fs)) {j : Nat} {q : TypeId} {d : DataW H} (ht : (fs.toList.map (·.type))[j]? = some q) (hd : parts[j]? = some d) : ∀ n ∈ d.weights P q, n ∈ (DataW.agg parts).weights P t := by
  intro n hn
  simp only [DataW.weights, hu]
  exact DataW.weights_mem_each ht hd n hn

theorem fields178 : fieldsOf Try.prog 178 = some [(5, 0), (3, 1), (22, 2), (108, 3)] := by kernel_rfl
theorem und111 : Try.prog.underlying 111 = some (.slice 178) := by kernel_rfl
theorem by5 : Try.prog.bytesOf 5 = 1 := by kernel_rfl
theorem by4 : Try.prog.bytesOf 4 = 1 := by kernel_rfl

/-- A slice of bytes, opened. -/
theorem open_bytes22 {H : Type} {enc : TypeId × Value → H} {w : World} {fuel : Nat} {v : Value} {x : DataW H × List MemPlace} (h : DataW.trod enc Try.prog w 0 (fun _ => true) true fuel 22 [v] = some x) (hz : ∀ n ∈ x.1.weights Try.prog 22, n ≤ reachBytes) :
    ∃ a cap l, v = .slice a (List.length l) cap ∧ SlC 0 w.heap.size f8 w a cap l := by
  rcases open_ints Try.underlying22 Try.underlying5 (by kernel_rfl) h with ⟨hcs, _⟩ | ⟨a, len, cap, zs, hcs, _, hl, hm, hzs, hx, hcell, hwz⟩
  · injection hcs with hcs _
    exact ⟨none, 0, [], hcs, by simp, fun _ => rfl, fun h => absurd rfl h, by simp⟩
  · injection hcs with hcs _
    have hb := hz ((lits .u8 (zs.take len)).length * 1 + (lits .u8 (zs.drop len)).length * 1 : Nat) (by
      rw [show x.1 = _ from congrArg Prod.fst hx]
      simp only [DataW.weights, Try.underlying22, List.mem_cons, by5, Nat.mul_one]
      first | exact .inl rfl | exact .inl trivial)
    have hz' : zs.length = cap := by simpa using hzs
    have hle : len ≤ 140737488351232 := by
      simp only [lits, List.length_map, List.length_take, List.length_drop, reachBytes] at hb
      omega
    obtain ⟨l, hl', hs⟩ := IsRow.sl (.inr ⟨a, rfl, hl, hm, hz', hcell, hwz⟩) (Nat.le_trans hle (by omega))
    subst hl'
    exact ⟨some a, cap, l, hcs, hs⟩
/-- A slice of bools, opened. -/
theorem open_bools108 {H : Type} {enc : TypeId × Value → H} {w : World} {fuel : Nat} {v : Value} {x : DataW H × List MemPlace} (h : DataW.trod enc Try.prog w 0 (fun _ => true) true fuel 108 [v] = some x) (hz : ∀ n ∈ x.1.weights Try.prog 108, n ≤ reachBytes) :
    ∃ a cap l, v = .slice a (List.length l) cap ∧ SlC 0 w.heap.size fB w a cap l := by
  rcases Go.Deep.open_bools Try.underlying108 Try.underlying4 (by kernel_rfl) h with ⟨hcs, _⟩ | ⟨a, len, cap, B, hcs, _, hl, hm, hx, hcell⟩
  · injection hcs with hcs _
    exact ⟨none, 0, [], hcs, by simp, fun _ => rfl, fun h => absurd rfl h, by simp⟩
  · injection hcs with hcs _
    have hb := hz (((List.range len).map fun i => (DataW.lit (.bool (B i)) : DataW H)).length * 1 + ((List.range (cap - len)).map fun i => (DataW.lit (.bool (B (len + i))) : DataW H)).length * 1 : Nat) (by
      rw [show x.1 = _ from congrArg Prod.fst hx]
      simp only [Go.Deep.boolRow, DataW.weights, Try.underlying108, List.mem_cons, by4, Nat.mul_one]
      first | exact .inl rfl | exact .inl trivial)
    have hle : len ≤ 140737488351232 := by
      simp only [List.length_map, List.length_range, reachBytes] at hb
      omega
    refine ⟨some a, cap, (List.range len).map B, by rw [List.length_map, List.length_range]; exact hcs, by simp; omega, (fun h => by cases h), fun hne => ?_, by simp; exact hl⟩
    have h0 : 0 < len := by
      rcases Nat.eq_zero_or_pos len with e | e
      · subst e; simp at hne
      · exact e
    obtain ⟨b, off, spot⟩ := a
    have hspot : spot = none := by simpa [Addr.add] using World.cell?_spot (hcell 0 (by omega))
    subst hspot
    have hc : ∀ j, j < cap → w.cell? ⟨b, off + j, none⟩ = some (.bool (B j)) := fun j hj => by rw [← Go.WideShapes.add_plain]; exact hcell j hj
    refine ⟨b, off, rfl, Nat.zero_le _, block_lt_of_cell (hc 0 (by omega)), fun j hj => ?_⟩
    have hj' : j < len := by simpa using hj
    rw [hc j (by omega)]
    simp [fB]

set_option maxRecDepth 100000 in
theorem open_acts {H : Type} {enc : TypeId × Value → H} {w : World} {fuel : Nat} {v : Value} {x : DataW H × List MemPlace} (h : DataW.trod enc Try.prog w 0 (fun _ => true) true fuel 111 [v] = some x) (hz : ∀ n ∈ x.1.weights Try.prog 111, n ≤ reachBytes) :
    ∃ ao cap l, v = .slice ao (List.length l) cap ∧ Acts w.heap.size w ao cap l := by
  rcases Go.Deep.open_slice und111 h with ⟨h0, _⟩ | ⟨a, len, cap, m, n, D, Pl, hcs, hb, hl, hm, hmm, hx, hi⟩
  · injection h0 with h0 _
    exact ⟨none, 0, [], h0, by simp, fun h => absurd rfl h⟩
  · injection hcs with hcs _
    obtain ⟨fs, hs, hf⟩ := fields_of fields178
    have hC : Try.prog.cellsOf 178 = 4 := by kernel_rfl
    have hone5 : Try.prog.cellsOf 5 = 1 := by kernel_rfl
    have hone22 : Try.prog.cellsOf 22 = 1 := by kernel_rfl
    have hone3 : Try.prog.cellsOf 3 = 1 := by kernel_rfl
    have hone108 : Try.prog.cellsOf 108 = 1 := by kernel_rfl
    have hlm : len ≤ m := by rw [hmm]; split <;> omega
    have hzD : ∀ i, i < len → ∀ n ∈ (D i).weights Try.prog 178, n ≤ reachBytes := fun i hi n hn => hz n (by
      rw [show x.1 = _ from congrArg Prod.fst hx]
      exact weights_elem und111 (List.mem_map.2 ⟨i, List.mem_range.2 hi, rfl⟩) n hn)
    have hspot : 0 < len → a.spot = none := by
      intro hp
      obtain ⟨cs', hc, ht⟩ := hi 0 (by omega)
      rw [hC] at hc
      obtain ⟨_, hcl, hat⟩ := World.cells?_some hc
      match cs', hcl with
      | [x0, x1, x2, x3], _ =>
      have := World.cell?_spot (hat 0 (by omega))
      simpa [Addr.add] using this
    have key : ∀ i, i < len → ∃ o : Actv, a.spot = none ∧ ActAt w.heap.size w a.block (a.off + i * 4) o := by
      intro i hi'
      obtain ⟨cs', hc, ht⟩ := hi i (by omega)
      rw [hC] at hc
      obtain ⟨_, hcl, hat⟩ := World.cells?_some hc
      obtain ⟨ys, n', hn', hy, hlen, hyl, hff⟩ := DataW.trod_struct hs ht
      have hDi := hzD i hi'
      have hDe : D i = .agg (ys.map (·.1)) := by rw [Prod.ext_iff] at hy; exact hy.1
      match cs', hcl with
      | [x0, x1, x2, x3], _ =>
      match fs, hf with
      | ⟨[f0, f1, f2, f3]⟩, hf =>
      simp at hf
      obtain ⟨⟨t0, o0⟩, ⟨t1, o1⟩, ⟨t2, o2⟩, ⟨t3, o3⟩⟩ := hf
      obtain ⟨y0, y1, y2, y3, rfl⟩ : ∃ y0 y1 y2 y3, ys = [y0, y1, y2, y3] := by
        match ys, hyl with
        | [y0, y1, y2, y3], _ => exact ⟨_, _, _, _, rfl⟩
      have g0 := hff 0 f0 rfl
      have g1 := hff 1 f1 rfl
      have g2 := hff 2 f2 rfl
      have g3 := hff 3 f3 rfl
      rw [t0, o0, hone5] at g0
      rw [t1, o1, hone3] at g1
      rw [t2, o2, hone22] at g2
      rw [t3, o3, hone108] at g3
      have z2 : ∀ n ∈ y2.1.weights Try.prog 22, n ≤ reachBytes := fun n hn => hDi n (by rw [hDe]; exact weights_field hs (j := 2) (by simp [t2]) rfl n hn)
      have z3 : ∀ n ∈ y3.1.weights Try.prog 108, n ≤ reachBytes := fun n hn => hDi n (by rw [hDe]; exact weights_field hs (j := 3) (by simp [t3]) rfl n hn)
      obtain ⟨n0, e0, _, w0⟩ := DataW.trod_int Try.underlying5 g0
      obtain ⟨n1, e1, _, w1⟩ := DataW.trod_int Try.underlying3 g1
      obtain ⟨da, dc, data, e2, w2⟩ := open_bytes22 (v := x2) (by simpa using g2) z2
      obtain ⟨ka, kc, keep, e3, w3⟩ := open_bools108 (v := x3) (by simpa using g3) z3
      have p0 : x0 = .int .u8 n0 := by simpa using e0
      have p1 : x1 = .int .i64 n1 := by simpa using e1
      clear e0 e1
      subst p0 p1 e2 e3
      have q0 := hat 0 (by omega)
      have q1 := hat 1 (by omega)
      have q2 := hat 2 (by omega)
      have q3 := hat 3 (by omega)
      have hsp := hspot (by omega)
      obtain ⟨b, off, sp⟩ := a
      obtain rfl : sp = none := hsp
      simp only [add_plain] at q0 q1 q2 q3
      have h1 : 0 ≤ n0 ∧ n0 ≤ 255 := by have := w0; simp [Lit.wf, IntKind.min, IntKind.max, IntKind.signed, IntKind.bits] at this; omega
      have h3 : -9223372036854775808 ≤ n1 ∧ n1 ≤ 9223372036854775807 := by have := w1; simp [Lit.wf, IntKind.min, IntKind.max, IntKind.signed, IntKind.bits] at this; omega
      obtain ⟨m0, rfl⟩ := Int.eq_ofNat_of_zero_le h1.1
      exact ⟨⟨m0, n1, data, keep, da, dc, ka, kc⟩, rfl, q0, q1, q2, q3, by simp; omega, h3, w2, w3⟩
    have hall : ∃ l : List Actv, l.length = len ∧ ∀ j (hj : j < l.length), a.spot = none ∧ ActAt w.heap.size w a.block (a.off + j * 4) l[j] := by
      refine ⟨List.ofFn (fun j : Fin len => (key j.val j.isLt).choose), by simp, fun j hj => ?_⟩
      rw [List.getElem_ofFn]
      exact (key j (by simpa using hj)).choose_spec
    obtain ⟨l, hl1, hl2⟩ := hall
    refine ⟨some a, cap, l, by rw [hl1]; exact hcs, by omega, fun hne => ?_⟩
    have hp : 0 < l.length := List.length_pos_iff.2 hne
    obtain ⟨b, off, sp⟩ := a
    obtain rfl : sp = none := (hl2 0 hp).1
    exact ⟨b, off, rfl, block_lt_of_cell (hl2 0 hp).2.c0, fun j hj => (hl2 j hj).2⟩
end Go.Proofs.Ytnplcfgjidolbaa
end
