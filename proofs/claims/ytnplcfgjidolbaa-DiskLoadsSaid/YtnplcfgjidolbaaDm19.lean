/- Any act of both disks; acts, one behind the other. Whether acts go beyond what is looked at. DiskDoes: the walk. -/
import Derived.Test.YtnplcfgjidolbaaDm18
import Derived.Deep.QuietTactic
import Derived.BigQuiet
import Derived.Test.YtnplcfgjidolbaaChecked
section
namespace Go.Proofs.Ytnplcfgjidolbaa
open Go.RowKit Go.Maps

/-- An act as a value. -/
def actV (x : Actv) : Value := .agg #[.int .u8 (x.k : Int), .int .i64 x.at_, .slice x.da x.data.length x.dc, .slice x.ka x.keep.length x.kc]
/-- Either. -/
theorem does_any {w wr : World} {B lb bm RB BB PB av hi : Nat} {d : Dsk} {M m : Nat} (h : Pr w wr B lb bm RB BB PB av hi d d M) (hb : Bd d m) (hm : m ≤ 5000000) (hM : M ≤ 5000000) (x : Actv)
    (hat : x.at_ ≤ 9223372036854775807) (hdv : SlC 0 w.heap.size f8 w x.da x.dc x.data) (hkv : SlC 0 w.heap.size fB w x.ka x.kc x.keep) :
    Calls Try.prog 95 #[.pointer (some ⟨PB, 0, none⟩), actV x] wr fun e w' => e = .returned (.bool true) ∧ ∃ av hi d', Pr w w' B lb bm RB BB PB av hi d' d' (M + 1) ∧ Bd d' (m + 1) := by
  have h1 : ∀ w', Below w.heap.size w w' → Sl 0 w'.heap.size f8 w' (.slice x.da x.data.length x.dc) x.data := fun w' hw => ⟨_, _, rfl, (hdv.below hw (Nat.le_refl _)).mono (Nat.le_refl _) hw.size⟩
  have h2 : ∀ w', Below w.heap.size w w' → Sl 0 w'.heap.size fB w' (.slice x.ka x.keep.length x.kc) x.keep := fun w' hw => ⟨_, _, rfl, (hkv.below hw (Nat.le_refl _)).mono (Nat.le_refl _) hw.size⟩
  have hk : x.k % 8 < 8 := Nat.mod_lt _ (by decide)
  unfold actV
  match hq : x.k % 8, hk with
  | 0, _ => exact (does_read h hb hm hM x.k hq x.at_ _ _).mono fun e w' ⟨e1, av, hi, e2⟩ => ⟨e1, av, hi, _, e2, hb.reads _⟩
  | 1, _ => exact (does_write1 h hb hm x.k hq x.at_ _ _ x.data h1).mono fun e w' ⟨e1, av, hi, e2⟩ => ⟨e1, av, hi, _, e2, hb.put _ _⟩
  | 2, _ => exact (does_write2 h hb hm x.k hq x.at_ _ _ x.data h1).mono fun e w' ⟨e1, av, hi, e2⟩ => ⟨e1, av, hi, _, e2, hb.put _ _⟩
  | 3, _ => exact (does_flush h hb hm x.k hq x.at_ _ _).mono fun e w' ⟨e1, av, hi, e2⟩ => ⟨e1, av, hi, _, e2, hb.flushed⟩
  | 4, _ => exact (does_cut h hb hm x.k hq x.at_ _ _ x.keep h2).mono fun e w' ⟨e1, av, hi, e2⟩ => ⟨e1, av, hi, _, e2, hb.cutBy _⟩
  | 5, _ => exact (does_pending h hb hm hM x.k hq x.at_ _ _).mono fun e w' ⟨e1, av, hi, e2⟩ => ⟨e1, av, hi, _, e2, hb.succ⟩
  | 6, _ => exact (does_image h hb hm hM x.k hq x.at_ _ _).mono fun e w' ⟨e1, av, hi, e2⟩ => ⟨e1, av, hi, _, e2, hb.succ⟩
  | 7, _ => exact (does_trip h hb hm x.k hq x.at_ _ _).mono fun e w' ⟨e1, av, hi, e2⟩ => ⟨e1, av, hi, _, e2, hb.tripped _ hat⟩

set_option maxHeartbeats 4000000 in
set_option maxRecDepth 100000 in
theorem plays_any {w wr : World} {B lb bm RB BB PB av hi : Nat} {d : Dsk} {M m : Nat} (h : Pr w wr B lb bm RB BB PB av hi d d M) (hb : Bd d m) (ao : Option Addr) (cap : Nat) (l : List Actv) (hl : Acts w.heap.size w ao cap l) (hm : m + l.length ≤ 5000000) (hM : M + l.length ≤ 5000000) :
    Calls Try.prog 44 #[.pointer (some ⟨PB, 0, none⟩), .slice ao l.length cap] wr fun x w' => x = .returned (.bool true) ∧ Below w.heap.size w w' := by
  have HL := Lib.hid hl
  have HP := Lib.hid h
  have HB := Lib.hid hb
  clear h hb hl
  go_enter Try.func44, Try.ntmps44
  go_wp2
  go_loopw [5] (fun i wq => ∃ (k : Nat) (d : Dsk) (av hi : Nat), k ≤ l.length ∧ i = .int .i64 k ∧ Pr w wq B lb bm RB BB PB av hi d d (M + k) ∧ Bd d (m + k)) (fun i _ => l.length - (intOf i).toNat)
  case atStart => exact ⟨0, d, av, hi, Nat.zero_le _, rfl, HP.out, HB.out⟩
  case round =>
    obtain ⟨k, d1, av1, hi1, hk, rfl, hp, hb⟩ := hrel
    have HP1 := Lib.hid hp
    have HB1 := Lib.hid hb
    by_cases hlt : k < l.length
    · obtain ⟨b, off, rfl, hbh, hcell⟩ := (HL.out.below hp.below (Nat.le_refl _)).cells (by intro e; subst e; simp at hlt)
      obtain ⟨c0, c1, c2, c3, hk0, hat0, hd0, hk1⟩ := hcell k hlt
      obtain ⟨b', off', e0, _, hcell'⟩ := HL.out.cells (by intro e; subst e; simp at hlt)
      injection e0 with e0
      injection e0 with e1 e2
      subst e1 e2
      obtain ⟨-, -, -, -, -, -, hd2, hk2⟩ := hcell' k hlt
      have i1 : (0 : Int) ≤ (k : Int) ∧ (k : Int) < (l.length : Int) := by omega
      have HC := Lib.hid (does_any hp hb (by omega) (by omega) l[k] hat0.2 hd2 hk2)
      clear hp hb hcell hcell' hd0 hk1 hd2 hk2
      generalize l[k] = x at *
      have hat1 := hat0.2
      clear hat0
      unfold actV at HC
      go_wp2_with (go_at_call 95; refine Calls.mono HC.out ?_; rintro e w1 ⟨rfl, av2, hi2, d2, hp2, hb2⟩; obtain ⟨z0, z1, -⟩ := pair_cells hp2.pair; obtain ⟨ra, rc, r0, r2, r4, r5, r6⟩ := r_cells hp2; have HP2 := Lib.hid hp2; have HB2 := Lib.hid hb2; clear hp2 hb2 c0 c1 c2 c3)
      go_region_held3 (fun w' => w'.cell? ⟨PB, 0, none⟩ = some (.pointer (some ⟨B, 0, none⟩)) ∧ w'.cell? ⟨PB, 1, none⟩ = some (.pointer (some ⟨RB, 0, none⟩)) ∧ w'.cell? ⟨RB, 2, none⟩ = some (.bool d2.dark) ∧ w'.cell? ⟨RB, 4, none⟩ = some (.int .i64 d2.rd) ∧ w'.cell? ⟨RB, 5, none⟩ = some (.int .i64 d2.wr) ∧ w'.cell? ⟨RB, 6, none⟩ = some (.int .i64 d2.fl)) (first | assumption | exact ⟨by assumption, by assumption, by assumption, by assumption, by assumption, by assumption⟩) (first
        | (go_at_call 36; refine (p_counts HP3.out).mono ?_; rintro e w4 ⟨rfl, hb4⟩; have hp4 := HP3.out.step hb4; obtain ⟨v0, v1, -⟩ := pair_cells hp4.pair; obtain ⟨qa, qc, q0, q2, q4, q5, q6⟩ := r_cells hp4; have HP4 := Lib.hid hp4; clear hp4 hb4)
        | (go_at_call 34; refine (p_dark (HP2.out.step (drew_b _))).mono ?_; rintro e w3 ⟨rfl, hw3⟩; have hp3 := HP2.out.step (drew_b _); rw [hw3] at hp3; obtain ⟨u0, u1, -⟩ := pair_cells hp3.pair; obtain ⟨ta, tc, t0, t2, t4, t5, t6⟩ := r_cells hp3; have HP3 := Lib.hid hp3; clear hp3 hw3))
      go_wp2
      exact ⟨⟨k + 1, d2, av2, hi2, by omega, by push_cast; rfl, HP4.out, HB2.out⟩, by simp [intOf]; omega⟩
    · obtain rfl : k = l.length := by omega
      obtain ⟨z0, z1, z2⟩ := pair_cells hp.pair
      obtain ⟨ra, rc, r0, -, -, -, -⟩ := r_cells hp
      clear hp hb
      go_wp2_with fail
      go_region_with (first
        | (go_at_call 22; refine (b_own HP2.out (by omega)).mono ?_; rintro e w3 ⟨rfl, hb3⟩; have HB3 := Lib.hid hb3; clear hb3)
        | (go_at_call 96; refine (p_sectors (HP1.out.step (drew_b _))).mono ?_; rintro e w2 ⟨rfl, hw2⟩; have hp2 := HP1.out.step (drew_b _); rw [hw2] at hp2; obtain ⟨u0, u1, u2⟩ := pair_cells hp2.pair; obtain ⟨ra2, rc2, s0, -, -, -, -⟩ := r_cells hp2; have HP2 := Lib.hid hp2; clear hp2 hw2))
      all_goals go_wp2
      all_goals go_ret
      all_goals exact ⟨rfl, HB3.out⟩
end Go.Proofs.Ytnplcfgjidolbaa
end
section
namespace Go.Proofs.Ytnplcfgjidolbaa
open Go.RowKit

/-- What much says. -/
def MuchP (n : Nat) (w : World) (e : Ending) (w' : World) : Prop := ∃ b : Bool, e = .returned (.bool b) ∧ (b = false → n ≤ 4000000) ∧ ∃ q, w' = w.drewN q

set_option maxHeartbeats 2000000 in
set_option maxRecDepth 100000 in
theorem much_any {hi : Nat} {w : World} (s : Int) (hs : 0 ≤ s ∧ s ≤ 1000000) (ao : Option Addr) (cap : Nat) (l : List Actv) (hl : Acts hi w ao cap l) :
    Calls Try.prog 43 #[.int .i64 s, .slice ao l.length cap] w (MuchP l.length w) := by
  have HL := Lib.hid hl
  have hml := hl.len
  unfold maxLen at hml
  clear hl
  go_enter Try.func43, Try.ntmps43
  go_wp2
  go_loopw [5, 6] (fun n i wq => ∃ (k q : Nat) (N : Int), k ≤ l.length ∧ i = .int .i64 k ∧ n = .int .i64 N ∧ (k : Int) ≤ N ∧ N ≤ 1125899906842624 ∧ Hid (wq = w.drewN q)) (fun _ i _ => l.length - (intOf i).toNat)
  case atStart => exact ⟨0, 0, 0, Nat.zero_le _, rfl, rfl, by omega, by omega, Lib.hid rfl⟩
  case round =>
    obtain ⟨k, q, N, hk, rfl, rfl, hN1, hN2, HW⟩ := hrel
    by_cases hlt : k < l.length
    · by_cases hN : N ≤ 4000000
      · obtain ⟨b, off, rfl, hbh, hcell⟩ := HL.out.cells (by intro e; subst e; simp at hlt)
        obtain ⟨c0, -, c2, c3, hk0, -, hd, hkp⟩ := hcell k hlt
        have key : ∀ (p : Addr), wr.cell? p = w.cell? p := fun p => by rw [HW.out]; rfl
        rw [← key] at c0 c2 c3
        have hdl := hd.len
        have hkl := hkp.len
        clear hcell key hd hkp
        generalize l[k] = x at *
        generalize x.data.length = dl at *
        generalize x.keep.length = kl at *
        have i1 : (0 : Int) ≤ (k : Int) ∧ (k : Int) < (l.length : Int) := by omega
        go_wp2
        go_quiet (fail)
        go_wp2
        all_goals exact ⟨⟨k + 1, q + nq, _, by omega, by push_cast; rfl, rfl, by omega, by omega, Lib.hid (by rw [HW.out, World.drewN_drewN])⟩, by simp [intOf]; omega⟩
      · have g1 : decide (N ≤ 4000000) = false := decide_eq_false hN
        have g2 : decide (4000000 < N) = true := decide_eq_true (by omega)
        go_wp2
        go_ret
        exact ⟨true, rfl, (fun h => by cases h), q, HW.out⟩
    · obtain rfl : k = l.length := by omega
      by_cases hN : 4000000 < N
      · have g2 : decide (4000000 < N) = true := decide_eq_true hN
        go_wp2
        go_ret
        exact ⟨true, rfl, (fun h => by cases h), q, HW.out⟩
      · have g2 : decide (4000000 < N) = false := decide_eq_false hN
        go_wp2
        go_ret
        exact ⟨false, rfl, (fun _ => by omega), q, HW.out⟩
end Go.Proofs.Ytnplcfgjidolbaa
end
section
namespace Go.Proofs.Ytnplcfgjidolbaa
open Go.RowKit Go.Maps

theorem Dk.low {w : World} {base base' B lb bm : Nat} {cv : Value} {d : Dsk} (h : Dk w base B lb bm cv d) (hb : base' ≤ base) : Dk w base' B lb bm cv d := by
  have := h.lo
  exact ⟨h.top, h.las, own_low h.cache hb, h.seen, h.ok, by omega⟩
theorem RD.low {w : World} {base base' B av : Nat} {lv cv : Value} {d : Dsk} (h : RD w base B av lv cv d) (hb : base' ≤ base) : RD w base' B av lv cv d := by
  obtain ⟨vs, h1, h2⟩ := h.las
  obtain ⟨us, h3, h4, h5⟩ := h.cache
  exact ⟨h.top, ⟨vs, own_low h1 hb, fun i u s hu hs => ⟨own_low (h2 i u s hu hs).1 hb, (h2 i u s hu hs).2⟩⟩, ⟨us, h3, own_low h4 hb, fun i u c hu hc => ⟨own_low (h5 i u c hu hc).1 hb, (h5 i u c hu hc).2⟩⟩, h.ok, Nat.le_trans hb h.lo⟩
/-- Where both begin. -/
theorem pr_start {w w3 : World} {b1 b2 B lb bm RB av : Nat} {lv rcv cv : Value} {d : Dsk} (hd : Dk w3 b1 B lb bm cv d) (hb1 : w.heap.size ≤ b1) (hr : RD w3 b2 RB av lv rcv d) (hb2 : w.heap.size ≤ b2) (hb : Below w.heap.size w w3) :
    Pr w ((w3.alloc (.cells (bookCells (.slice none 0 0) (.slice none 0 0)) 76)).alloc (.cells #[.pointer (some ⟨B, 0, none⟩), .pointer (some ⟨RB, 0, none⟩), .pointer (some ⟨w3.heap.size, 0, none⟩)] 118)) B lb bm RB w3.heap.size (w3.heap.size + 1)
      ((w3.alloc (.cells (bookCells (.slice none 0 0) (.slice none 0 0)) 76)).alloc (.cells #[.pointer (some ⟨B, 0, none⟩), .pointer (some ⟨RB, 0, none⟩), .pointer (some ⟨w3.heap.size, 0, none⟩)] 118)).heap.size 0 d d 0 := by
  have e1 : (w3.alloc (.cells (bookCells (.slice none 0 0) (.slice none 0 0)) 76)).heap.size = w3.heap.size + 1 := by simp
  have b3 : Below w3.heap.size w3 ((w3.alloc (.cells (bookCells (.slice none 0 0) (.slice none 0 0)) 76)).alloc (.cells #[.pointer (some ⟨B, 0, none⟩), .pointer (some ⟨RB, 0, none⟩), .pointer (some ⟨w3.heap.size, 0, none⟩)] 118)) := ((Below.refl _ _).alloc (Nat.le_refl _) _).alloc (by simp) _
  refine ⟨⟨cv, (hd.low hb1).below b3⟩, ⟨lv, rcv, .slice none 0 0, [], fun _ => 0, .slice none 0 0, [], fun _ => 0, ((hr.low hb2).below b3).reav _ (Nat.le_refl _), ⟨?_, Bk.nil _ _ _ _ _, Bk.nil _ _ _ _ _, by intro i j u v h; simp at h, by intro i j u v h; simp at h⟩, fun _ => Nat.zero_le _, fun _ => Nat.zero_le _, by simp, by simp, fun k _ e => (by cases e), fun v hv => (by simp at hv), fun v hv => (by simp at hv)⟩, ?_, hb.size, Nat.zero_le _, hb.trans (b3.mono hb.size)⟩
  · rw [Below.heap_alloc _ _ _ (by simp)]
    exact heap_alloc_new _ _
  · rw [← e1]
    exact heap_alloc_new _ _
namespace diskDoes
set_option maxHeartbeats 4000000 in
set_option maxRecDepth 100000 in
theorem walk (a0 : Int) (a1 : Option Addr) (cap1 : Nat) (l1 : List Actv) (w : World) (_ : (Lit.int .i64 a0).wf = true) (w1 : Acts w.heap.size w a1 cap1 l1) :
    Calls Try.prog 8 #[.int .i64 a0, .slice a1 l1.length cap1] w fun e w' => e = .returned (.bool true) ∧ Below w.heap.size w w' := by
  have HA := Lib.hid w1
  have hml := w1.len
  unfold maxLen at hml
  clear w1
  by_cases hearly : 1000 < a0 ∧ a0 ≤ 16384 ∧ 3 < l1.length
  · obtain ⟨e1, e2, e3⟩ := hearly
    have g1 : decide (1000 < a0) = true := decide_eq_true e1
    have g2 : decide (a0 ≤ 16384) = true := decide_eq_true e2
    have g3 : decide (3 < (l1.length : Int)) = true := decide_eq_true (by omega)
    go_enter Try.func8, Try.ntmps8
    go_wp2_with (go_at_call 30; refine (known5_any w).mono ?_; rintro e w2 ⟨rfl, hb2⟩; have HB2 := Lib.hid hb2; clear hb2)
    go_ret
    exact ⟨rfl, HB2.out⟩
  · by_cases hok : 1 ≤ a0 ∧ a0 ≤ 16384
    · obtain ⟨n, rfl⟩ := Int.eq_ofNat_of_zero_le (show 0 ≤ a0 by omega)
      have h1 : 1 ≤ n := by omega
      have h2 : n ≤ 16384 := by omega
      have HN1 := Lib.hid (show (1 : Int) ≤ (n : Int) by omega)
      have HN2 := Lib.hid (show (n : Int) ≤ 16384 by omega)
      have HBD := Lib.hid (show Bd (newDsk n) 0 from ⟨by unfold newDsk; rw [List.length_replicate]; exact h2, Nat.le_refl _, ⟨(by show (-9223372036854775808 : Int) ≤ -1; decide), (by show (-1 : Int) ≤ 9223372036854775807; decide)⟩, ⟨Int.le_refl _, Int.le_refl _⟩, ⟨Int.le_refl _, Int.le_refl _⟩, ⟨Int.le_refl _, Int.le_refl _⟩⟩)
      by_cases g : 1000 < n
      · have g1 : decide (1000 < (n : Int)) = true := decide_eq_true (by omega)
        have g2 : decide ((n : Int) ≤ 16384) = true := decide_eq_true (by omega)
        have g3 : decide (3 < (l1.length : Int)) = false := decide_eq_false (by omega)
        clear hearly hok
        go_enter Try.func8, Try.ntmps8
        go_wp2_with (first
          | (go_at_call 44; have hlen : l1.length ≤ 4000000 := HQ5.out (by first | assumption | rfl); refine (plays_any (pr_start (HD4.out.below (drewN_b w4 q5)) HLO3.out (HR4.out.below (drewN_b w4 q5)) HLO4.out (HB4.out.trans ((drewN_b w4 q5).mono HB4.out.size))) HBD.out a1 cap1 l1 HA.out (by omega) (by omega)).mono ?_; rintro e w6 ⟨rfl, hb6⟩; have HB6 := Lib.hid hb6; clear hb6)
          | (go_at_call 43; refine (much_any (n : Int) ⟨by omega, by omega⟩ a1 cap1 l1 (HA.out.below HB4.out (Nat.le_refl _))).mono ?_; rintro e w5 ⟨b5, rfl, hq5, q5, rfl⟩; have HQ5 := Lib.hid hq5; clear hq5)
          | (go_at_call 42; refine (rnew_any w3 n h1 h2).mono ?_; rintro e w4 ⟨RB, lv, rfl, hr4, hb4⟩; have HR4 := Lib.hid hr4; have HD4 := Lib.hid (HD3.out.below hb4); have HB4 := Lib.hid (HB3.out.trans (hb4.mono HB3.out.size)); have HLO4 := Lib.hid HB3.out.size; clear hr4 hb4)
          | (go_at_call 29; refine (dnew_any _ _ HN1.out HN2.out).mono ?_; rintro e w3 ⟨B, lb, bm, rfl, hd3, hb3⟩; rw [Int.toNat_natCast] at hd3; have HD3 := Lib.hid hd3; have HB3 := Lib.hid (HB2.out.trans (hb3.mono HB2.out.size)); have HLO3 := Lib.hid HB2.out.size; clear hd3 hb3)
          | (go_at_call 30; refine (known5_any w).mono ?_; rintro e w2 ⟨rfl, hb2⟩; have HB2 := Lib.hid hb2; clear hb2))
        all_goals go_ret
        · exact ⟨rfl, HB4.out.trans ((drewN_b w4 q5).mono HB4.out.size)⟩
        · exact ⟨rfl, HB6.out⟩
      · have g1 : decide (1000 < (n : Int)) = false := decide_eq_false (by omega)
        clear hearly hok
        go_enter Try.func8, Try.ntmps8
        go_wp2_with (first
          | (go_at_call 44; have hlen : l1.length ≤ 4000000 := HQ5.out (by first | assumption | rfl); refine (plays_any (pr_start (HD4.out.below (drewN_b w4 q5)) HLO3.out (HR4.out.below (drewN_b w4 q5)) HLO4.out (HB4.out.trans ((drewN_b w4 q5).mono HB4.out.size))) HBD.out a1 cap1 l1 HA.out (by omega) (by omega)).mono ?_; rintro e w6 ⟨rfl, hb6⟩; have HB6 := Lib.hid hb6; clear hb6)
          | (go_at_call 43; refine (much_any (n : Int) ⟨by omega, by omega⟩ a1 cap1 l1 (HA.out.below HB4.out (Nat.le_refl _))).mono ?_; rintro e w5 ⟨b5, rfl, hq5, q5, rfl⟩; have HQ5 := Lib.hid hq5; clear hq5)
          | (go_at_call 42; refine (rnew_any w3 n h1 h2).mono ?_; rintro e w4 ⟨RB, lv, rfl, hr4, hb4⟩; have HR4 := Lib.hid hr4; have HD4 := Lib.hid (HD3.out.below hb4); have HB4 := Lib.hid (HB3.out.trans (hb4.mono HB3.out.size)); have HLO4 := Lib.hid HB3.out.size; clear hr4 hb4)
          | (go_at_call 29; refine (dnew_any _ _ HN1.out HN2.out).mono ?_; rintro e w3 ⟨B, lb, bm, rfl, hd3, hb3⟩; rw [Int.toNat_natCast] at hd3; have HD3 := Lib.hid hd3; have HB3 := Lib.hid (HB2.out.trans (hb3.mono HB2.out.size)); have HLO3 := Lib.hid HB2.out.size; clear hd3 hb3)
          | (go_at_call 30; refine (known5_any w).mono ?_; rintro e w2 ⟨rfl, hb2⟩; have HB2 := Lib.hid hb2; clear hb2))
        all_goals go_ret
        · exact ⟨rfl, HB4.out.trans ((drewN_b w4 q5).mono HB4.out.size)⟩
        · exact ⟨rfl, HB6.out⟩
    · have hbad : a0 < 1 ∨ 16384 < a0 := by omega
      have HBAD := Lib.hid hbad
      by_cases g : 1000 < a0
      · have g1 : decide (1000 < a0) = true := decide_eq_true g
        have g2 : decide (a0 ≤ 16384) = false := decide_eq_false (by omega)
        clear hearly hok hbad
        go_enter Try.func8, Try.ntmps8
        go_wp2_with (first
          | (go_at_call 42; refine (rnew_bad _ _ HBAD.out).mono ?_; rintro e wz ⟨rfl, hw1⟩; have hw2 := hw1.symm; clear hw1; subst hw2)
          | (go_at_call 29; refine (dnew_bad _ _ HBAD.out).mono ?_; rintro e wz ⟨rfl, hw1⟩; have hw2 := hw1.symm; clear hw1; subst hw2)
          | (go_at_call 30; refine (known5_any w).mono ?_; rintro e w2 ⟨rfl, hb2⟩; have HB2 := Lib.hid hb2; clear hb2))
        go_ret
        exact ⟨rfl, HB2.out⟩
      · have g1 : decide (1000 < a0) = false := decide_eq_false g
        clear hearly hok hbad
        go_enter Try.func8, Try.ntmps8
        go_wp2_with (first
          | (go_at_call 42; refine (rnew_bad _ _ HBAD.out).mono ?_; rintro e wz ⟨rfl, hw1⟩; have hw2 := hw1.symm; clear hw1; subst hw2)
          | (go_at_call 29; refine (dnew_bad _ _ HBAD.out).mono ?_; rintro e wz ⟨rfl, hw1⟩; have hw2 := hw1.symm; clear hw1; subst hw2)
          | (go_at_call 30; refine (known5_any w).mono ?_; rintro e w2 ⟨rfl, hb2⟩; have HB2 := Lib.hid hb2; clear hb2))
        go_ret
        exact ⟨rfl, HB2.out⟩
end diskDoes
end Go.Proofs.Ytnplcfgjidolbaa
end
