/- DiskLoads: the walk. -/
import Derived.Test.YtnplcfgjidolbaaDm19
namespace Go.Proofs.Ytnplcfgjidolbaa.diskLoads
open Go.RowKit Go.Maps

theorem rd_apart {w : World} {base B av : Nat} {lv cv : Value} {d : Dsk} (h : RD w base B av lv cv d) (av' : Nat) (hav : av' < base) : RD w base B av' lv cv d := by
  have key : ∀ {u : Value} {s : List UInt8}, Rb w base av u s → Rb w base av' u s := fun hu => ⟨hu.1, fun e => by have := (hu.1.lt av' e).1; omega⟩
  obtain ⟨vs, h1, h2⟩ := h.las
  obtain ⟨us, h3, h4, h5⟩ := h.cache
  exact ⟨h.top, ⟨vs, h1, fun i u s hu hs => key (h2 i u s hu hs)⟩, ⟨us, h3, h4, fun i u c hu hc => key (h5 i u c hu hc)⟩, h.ok, h.lo⟩
theorem dk_spoil {w w' : World} {base B lb bm q : Nat} {cv : Value} {d : Dsk} {cs : Array Value} (h : Dk w base B lb bm cv d) (hq : w.heap[q]? = some (.cells cs 5 (0, 0))) (hg : w.grownBy w' (some q)) : Dk w' base B lb bm cv d :=
  h.keep fun k o hk ho => hg.block k (heap_lt' hk) (fun e => by
    injection e with e
    subst e
    rw [hq] at hk
    injection hk with hk
    rcases ho _ _ _ hk.symm with h | h | h <;> cases h)
theorem rd_spoil {w w' : World} {base B q : Nat} {lv cv : Value} {d : Dsk} {cs : Array Value} (h : RD w base B q lv cv d) (hq : w.heap[q]? = some (.cells cs 5 (0, 0))) (hg : w.grownBy w' (some q)) : RD w' base B q lv cv d :=
  h.keep fun k cs' t hk ht => hg.block k (heap_lt' hk) (fun e => by
    injection e with e
    subst e
    rw [hq] at hk
    injection hk with hk
    injection hk with _ hk
    subst hk
    rcases ht with h | ⟨h, _⟩ | h | ⟨_, h⟩
    · cases h
    · cases h
    · cases h
    · exact h rfl)
theorem lent_N {w : World} {v : Value} {l : List UInt8} {N : Nat} (hN : l.length = N) (hv : Sl 0 w.heap.size f8 w v l) : Calls Try.prog 45 #[v] w fun e w' => ∃ g, e = .returned (.slice (some ⟨g, 0, none⟩) N (N + 2)) ∧ w.heap.size ≤ g ∧
      w'.heap[g]? = some (.cells (l.map f8 ++ [Value.int .u8 91, Value.int .u8 92]).toArray 5 (0, 0)) ∧ Below w.heap.size w w' := by
  subst hN
  exact lent_any 0 _ w v l hv (Nat.le_refl _)
theorem whole_N {w : World} {v : Value} {l : List UInt8} {N g : Nat} (hN : l.length = N) (hl : N ≤ 140737488355328) (hg : w.heap[g]? = some (.cells (l.map f8 ++ [Value.int .u8 91, Value.int .u8 92]).toArray 5 (0, 0))) (hv : Sl 0 w.heap.size f8 w v l) :
    Calls Try.prog 48 #[.slice (some ⟨g, 0, none⟩) N (N + 2), v] w fun e w' => e = .returned (.bool true) ∧ ∃ n, w' = w.drewN n := by
  subst hN
  have h := whole_any 0 _ g w v l l hl hg hv
  rw [sameB_refl] at h
  exact h
theorem spoil_N {w : World} {l : List UInt8} {N g : Nat} (hN : l.length = N) (hl : N ≤ 140737488355328) (hg : w.heap[g]? = some (.cells (l.map f8 ++ [Value.int .u8 91, Value.int .u8 92]).toArray 5 (0, 0))) :
    Calls Try.prog 49 #[.slice (some ⟨g, 0, none⟩) N (N + 2)] w fun e w' => e = .returned (.tuple #[]) ∧ w.grownBy w' (some g) := by
  subst hN
  exact spoil_any g _ w _ (by omega) (by simp) hg _
theorem loaded_bd (l : List UInt8) (n : Nat) (h : n ≤ 16384) : Bd (loaded l n) 0 :=
  ⟨by show (sects l n).length ≤ 16384; rw [sects_len]; exact h, Nat.le_refl _, ⟨(by show (-9223372036854775808 : Int) ≤ -1; decide), (by show (-1 : Int) ≤ 9223372036854775807; decide)⟩, ⟨Int.le_refl _, Int.le_refl _⟩, ⟨Int.le_refl _, Int.le_refl _⟩, ⟨Int.le_refl _, Int.le_refl _⟩⟩

set_option maxHeartbeats 4000000 in
set_option maxRecDepth 100000 in
theorem walkBad (ao : Option Addr) (cap N : Nat) (l0 : List UInt8) (hN : l0.length = N) (a1 : Option Addr) (cap1 : Nat) (l1 : List Actv) (w : World) (hs : Sl 0 w.heap.size f8 w (.slice ao N cap) l0) (hbad : N = 0 ∨ N % 256 ≠ 0 ∨ 4194304 < N) (hle : N ≤ 4000000 ∨ 4194304 < N) (h12 : N ≤ 12000000) :
    Calls Try.prog 9 #[.slice ao N cap, .slice a1 l1.length cap1] w fun e w' => e = .returned (.bool true) ∧ Below w.heap.size w w' := by
  have HS := Lib.hid hs
  have HN := Lib.hid hN
  have HBAD := Lib.hid hbad
  have SLB := Lib.hid (show ∀ W, Below w.heap.size w W → Sl 0 W.heap.size f8 W (.slice ao N cap) l0 from fun W hW => (hs.below hW (Nat.le_refl _)).mono (Nat.le_refl _) hW.size)
  have g3 : decide (12000000 < (N : Int)) = false := decide_eq_false (by omega)
  clear hs hN hbad
  by_cases hc : N ≤ 4000000
  · have g1 : decide (4000000 < (N : Int)) = false := decide_eq_false (by omega)
    clear hle
    go_enter Try.func9, Try.ntmps9
    go_wp2_with (first
      | (go_at_call 30; refine (known5_any _).mono ?_; rintro e w4 ⟨rfl, hb4⟩; have HB4 := Lib.hid hb4; clear hb4)
      | (go_at_call 49; refine (spoil_N HN.out (by omega) HBK3.out).mono ?_; rintro e w3 ⟨rfl, hg3⟩; have HG3 := Lib.hid hg3; clear hg3)
      | (go_at_call 48; refine (whole_N HN.out (by omega) HBK2.out (SLB.out w2 HB2.out)).mono ?_; rintro e wz ⟨rfl, n3, rfl⟩; have HBK3 := Lib.hid (show (w2.drewN n3).heap[g]? = some (.cells (l0.map f8 ++ [Value.int .u8 91, Value.int .u8 92]).toArray 5 (0, 0)) from HBK2.out))
      | (go_at_call 47; refine (rload_bad _ _ _ _ HBAD.out).mono ?_; rintro e wz ⟨rfl, hw1⟩; subst hw1)
      | (go_at_call 46; refine (dload_bad _ _ _ _ HBAD.out (by omega)).mono ?_; rintro e wz ⟨rfl, hw1⟩; subst hw1)
      | (go_at_call 45; refine (lent_N HN.out HS.out).mono ?_; rintro e w2 ⟨g, rfl, hge, hbk, hb2⟩; have HG2 := Lib.hid hge; have HB2 := Lib.hid hb2; have HBK2 := Lib.hid hbk; clear hge hb2 hbk))
    go_ret
    have s2 := HB2.out.size
    have b3 := (HB2.out.trans ((drewN_b w2 n3).mono s2)).grown HG3.out (show w.heap.size ≤ (w2.drewN n3).heap.size from s2) (fun q hq => by injection hq with hq; have := HG2.out; omega)
    exact ⟨rfl, b3.trans (HB4.out.mono b3.size)⟩
  · have g1 : decide (4000000 < (N : Int)) = true := decide_eq_true (by omega)
    have g2 : decide ((N : Int) ≤ 4194304) = false := decide_eq_false (by omega)
    clear hle
    go_enter Try.func9, Try.ntmps9
    go_wp2_with (first
      | (go_at_call 30; refine (known5_any _).mono ?_; rintro e w4 ⟨rfl, hb4⟩; have HB4 := Lib.hid hb4; clear hb4)
      | (go_at_call 49; refine (spoil_N HN.out (by omega) HBK3.out).mono ?_; rintro e w3 ⟨rfl, hg3⟩; have HG3 := Lib.hid hg3; clear hg3)
      | (go_at_call 48; refine (whole_N HN.out (by omega) HBK2.out (SLB.out w2 HB2.out)).mono ?_; rintro e wz ⟨rfl, n3, rfl⟩; have HBK3 := Lib.hid (show (w2.drewN n3).heap[g]? = some (.cells (l0.map f8 ++ [Value.int .u8 91, Value.int .u8 92]).toArray 5 (0, 0)) from HBK2.out))
      | (go_at_call 47; refine (rload_bad _ _ _ _ HBAD.out).mono ?_; rintro e wz ⟨rfl, hw1⟩; subst hw1)
      | (go_at_call 46; refine (dload_bad _ _ _ _ HBAD.out (by omega)).mono ?_; rintro e wz ⟨rfl, hw1⟩; subst hw1)
      | (go_at_call 45; refine (lent_N HN.out HS.out).mono ?_; rintro e w2 ⟨g, rfl, hge, hbk, hb2⟩; have HG2 := Lib.hid hge; have HB2 := Lib.hid hb2; have HBK2 := Lib.hid hbk; clear hge hb2 hbk))
    go_ret
    have s2 := HB2.out.size
    have b3 := (HB2.out.trans ((drewN_b w2 n3).mono s2)).grown HG3.out (show w.heap.size ≤ (w2.drewN n3).heap.size from s2) (fun q hq => by injection hq with hq; have := HG2.out; omega)
    exact ⟨rfl, b3.trans (HB4.out.mono b3.size)⟩

set_option maxHeartbeats 1000000 in
set_option maxRecDepth 100000 in
theorem walkA (ao : Option Addr) (cap N : Nat) (v : Value) (w : World) (hA : 4000000 < N ∧ N ≤ 4194304) :
    Calls Try.prog 9 #[.slice ao N cap, v] w fun e w' => e = .returned (.bool true) ∧ Below w.heap.size w w' := by
  have g1 : decide (4000000 < (N : Int)) = true := decide_eq_true (by omega)
  have g2 : decide ((N : Int) ≤ 4194304) = true := decide_eq_true (by omega)
  clear hA
  go_enter Try.func9, Try.ntmps9
  go_wp2
  go_ret
  exact ⟨rfl, Below.refl _ _⟩
set_option maxHeartbeats 1000000 in
set_option maxRecDepth 100000 in
theorem walkB (ao : Option Addr) (cap N : Nat) (v : Value) (w : World) (hB : 12000000 < N) :
    Calls Try.prog 9 #[.slice ao N cap, v] w fun e w' => e = .returned (.bool true) ∧ Below w.heap.size w w' := by
  have g1 : decide (4000000 < (N : Int)) = true := decide_eq_true (by omega)
  have g2 : decide ((N : Int) ≤ 4194304) = false := decide_eq_false (by omega)
  have g3 : decide (12000000 < (N : Int)) = true := decide_eq_true (by omega)
  clear hB
  go_enter Try.func9, Try.ntmps9
  go_wp2
  go_ret
  exact ⟨rfl, Below.refl _ _⟩

theorem lentC {w : World} {l : List UInt8} {N g : Nat} (hN : l.length = N) (hl : N ≤ 140737488355328) (hg : w.heap[g]? = some (.cells (l.map f8 ++ [Value.int .u8 91, Value.int .u8 92]).toArray 5 (0, 0))) : SlC 0 w.heap.size f8 w (some ⟨g, 0, none⟩) (N + 2) l := by
  subst hN
  obtain ⟨a, c, e, h⟩ := lent_sl hl hg
  injection e with e1 _ e2
  subst e1 e2
  exact h.mono (Nat.zero_le _) (heap_lt' hg)

set_option maxHeartbeats 4000000 in
set_option maxRecDepth 100000 in
theorem walkGood (bb off cap N n : Nat) (l0 : List UInt8) (hN : l0.length = N) (a1 : Option Addr) (cap1 : Nat) (l1 : List Actv) (w : World) (hs : SlC 0 w.heap.size f8 w (some ⟨bb, off, none⟩) cap l0) (ha : Acts w.heap.size w a1 cap1 l1) (h0 : 0 < n) (hn : n ≤ 16384) (hNN : N = n * 256) (hle : N ≤ 4000000) :
    Calls Try.prog 9 #[.slice (some ⟨bb, off, none⟩) N cap, .slice a1 l1.length cap1] w fun e w' => e = .returned (.bool true) ∧ Below w.heap.size w w' := by
  have hml := ha.len
  unfold maxLen at hml
  have HS := Lib.hid (show Sl 0 w.heap.size f8 w (.slice (some ⟨bb, off, none⟩) N cap) l0 from ⟨_, _, by rw [hN], hs⟩)
  have SLC := Lib.hid (show ∀ W, Below w.heap.size w W → SlC 0 W.heap.size f8 W (some ⟨bb, off, none⟩) cap l0 from fun W hW => (hs.below hW (Nat.le_refl _)).mono (Nat.le_refl _) hW.size)
  have SLB := Lib.hid (show ∀ W, Below w.heap.size w W → Sl 0 W.heap.size f8 W (.slice (some ⟨bb, off, none⟩) N cap) l0 from fun W hW => ⟨_, _, by rw [hN], (hs.below hW (Nat.le_refl _)).mono (Nat.le_refl _) hW.size⟩)
  have HN := Lib.hid hN
  have HNN := Lib.hid hNN
  have HA := Lib.hid ha
  have HBD := Lib.hid (loaded_bd l0 n hn)
  have HLO := Lib.hid (Nat.le_refl w.heap.size)
  have hsm : sameB l0 l0 = true := sameB_refl l0
  have g1 : decide (4000000 < (N : Int)) = false := decide_eq_false (by omega)
  have g3 : decide (12000000 < (N : Int)) = false := decide_eq_false (by omega)
  have hq : (N : Int) / 256 = (n : Int) := by omega
  have hwq : wrap64 (n : Int) = (n : Int) := by unfold wrap64; omega
  clear hs hN hNN ha
  by_cases h40 : 40 < l1.length
  · have g4 : decide (40 < (l1.length : Int)) = true := decide_eq_true (by omega)
    go_enter Try.func9, Try.ntmps9
    go_wp2_with (first 
        | (go_at_call 44; have hlen : l1.length ≤ 4000000 := HQ6.out (by first | assumption | rfl); refine (plays_any (HP9.out.step (drewN_b _ n9)) HBD.out a1 cap1 l1 HA.out (by omega) (by omega)).mono ?_; rintro e w10 ⟨rfl, hb10⟩; have HB10 := Lib.hid hb10; clear hb10)
        | (go_at_call 16; refine (same_any _ _ _ _ _ _ _ _ _ HO9.out (SLB.out w9 HP9.out.below)).mono ?_; rintro e wz ⟨rfl, n9, rfl⟩)
        | (go_at_call 20; refine (b_bytes HP8.out (own_low HO8.out HP7.out.below.size) (fun q hq => by have := (HO8.out.lt q hq).1; omega) (by have := HF8.out; omega) (by omega)).mono ?_; rintro e w9 ⟨rfl, hp9, ha9⟩; have HP9 := Lib.hid hp9; have HO9 := Lib.hid (show Sl 0 w9.heap.size f8 w9 v8 l0 from (by have h := ha9.own HO8.out (.inl rfl); have e := sects_flat l0 n (by rw [HN.out, HNN.out]; exact Nat.le_refl _); have e2 : (loaded l0 n).ls.flatten = l0 := (by show (sects l0 n).flatten = l0; rw [e, ← HNN.out, ← HN.out, List.take_length]); rw [e2] at h; exact (Sl.owns h (by rw [HN.out]; omega)).mono (Nat.zero_le _) (Nat.le_refl _))); clear hp9 ha9)
        | (go_at_call 41; refine (p_image HP7.out (by have := HBD.out.ls; exact this)).mono ?_; rintro e w8 ⟨v8, rfl, ho8, hf8, hp8, ha8⟩; obtain ⟨-, -, z2⟩ := pair_cells hp8.pair; have z3 : w8.cell? ⟨w6.heap.size + 1, 2, none⟩ = some (.pointer (some ⟨w6.heap.size, 0, none⟩)) := z2; clear z2; have HP8 := Lib.hid hp8; have HO8 := Lib.hid ho8; have HF8 := Lib.hid (show (loaded l0 n).ls.flatten.length ≤ 4194304 by rw [hf8]; have := HBD.out.ls; omega); clear hp8 ho8 hf8 ha8)
        | (go_at_call 43; refine (much_any (n : Int) ⟨by omega, by omega⟩ a1 cap1 l1 (HA.out.below HB6.out (Nat.le_refl _))).mono ?_; rintro e wz ⟨b6, rfl, hq6, q6, rfl⟩; have HQ6 := Lib.hid hq6; have HP7 := Lib.hid ((pr_start (HD6.out.below (drewN_b w6 q6)) HLO.out (HR6.out.below (drewN_b w6 q6)) HLO.out (HB6.out.trans ((drewN_b w6 q6).mono HB6.out.size))).reset _ (Nat.le_refl _)); clear hq6)
        | (go_at_call 30; refine (known5_any _).mono ?_; rintro e w6 ⟨rfl, hb6⟩; have HD6 := Lib.hid (HD5.out.below hb6); have HR6 := Lib.hid (HR5.out.below hb6); have HB6 := Lib.hid (HB5.out.trans (hb6.mono HB5.out.size)); clear hb6)
        | (go_at_call 49; refine (spoil_N HN.out (by omega) HBK4.out).mono ?_; rintro e w5 ⟨rfl, hg5⟩; have HD5 := Lib.hid (dk_spoil HD4.out HBK4.out hg5); have HR5 := Lib.hid (rd_spoil HR4.out HBK4.out hg5); have HB5 := Lib.hid (HB4.out.grown hg5 HB4.out.size (fun q hq => by injection hq with hq; have := HG2.out; omega)); clear hg5)
        | (go_at_call 48; refine (whole_N HN.out (by omega) HBK3.out (SLB.out w4 HB3.out)).mono ?_; rintro e wz ⟨rfl, n4, rfl⟩; have HBK4 := Lib.hid (show (w4.drewN n4).heap[g]? = some (.cells (l0.map f8 ++ [Value.int .u8 91, Value.int .u8 92]).toArray 5 (0, 0)) from HBK3.out); have HD4 := Lib.hid (HD3.out.below (drewN_b w4 n4)); have HR4 := Lib.hid (HR3.out.below (drewN_b w4 n4)); have HB4 := Lib.hid (HB3.out.trans ((drewN_b w4 n4).mono HB3.out.size)))
        | (go_at_call 47; refine (rload_any w3 bb off cap n N l0 (SLC.out w3 HB2c.out) h0 HN.out HNN.out hn).mono ?_; rintro e w4 ⟨RB, lv, rfl, hr4, hb4⟩; have HBK3 := Lib.hid ((hb4.block g (heap_lt' HBK2c.out)).trans HBK2c.out); have HD3 := Lib.hid ((HD2.out.below hb4)); have HR3 := Lib.hid ((rd_apart hr4 g (heap_lt' HBK2c.out)).low HLT.out); have HB3 := Lib.hid (HB2c.out.trans (hb4.mono HB2c.out.size)); clear hr4 hb4)
        | (go_at_call 46; refine (dload_any w2 g 0 (N + 2) n N l0 (lentC HN.out (by omega) HBK2.out) h0 HN.out HNN.out hn).mono ?_; rintro e w3 ⟨B, lb, bm, rfl, hd3, hb3⟩; have HD2 := Lib.hid (hd3.low HB2.out.size); have HB2c := Lib.hid (HB2.out.trans (hb3.mono HB2.out.size)); have HBK2c := Lib.hid ((hb3.block g (heap_lt' HBK2.out)).trans HBK2.out); have HLT := Lib.hid (show w.heap.size ≤ w3.heap.size by have := HB2.out.size; have := hb3.size; omega); clear hd3 hb3)
        | (go_at_call 45; refine (lent_N HN.out HS.out).mono ?_; rintro e w2 ⟨g, rfl, hge, hbk, hb2⟩; have HG2 := Lib.hid hge; have HB2 := Lib.hid hb2; have HBK2 := Lib.hid hbk; clear hge hb2 hbk))
    go_ret
    exact ⟨rfl, HB6.out⟩
  · have g4 : decide (40 < (l1.length : Int)) = false := decide_eq_false (by omega)
    go_enter Try.func9, Try.ntmps9
    go_wp2_with (first 
        | (go_at_call 44; have hlen : l1.length ≤ 4000000 := HQ6.out (by first | assumption | rfl); refine (plays_any (HP9.out.step (drewN_b _ n9)) HBD.out a1 cap1 l1 HA.out (by omega) (by omega)).mono ?_; rintro e w10 ⟨rfl, hb10⟩; have HB10 := Lib.hid hb10; clear hb10)
        | (go_at_call 16; refine (same_any _ _ _ _ _ _ _ _ _ HO9.out (SLB.out w9 HP9.out.below)).mono ?_; rintro e wz ⟨rfl, n9, rfl⟩)
        | (go_at_call 20; refine (b_bytes HP8.out (own_low HO8.out HP7.out.below.size) (fun q hq => by have := (HO8.out.lt q hq).1; omega) (by have := HF8.out; omega) (by omega)).mono ?_; rintro e w9 ⟨rfl, hp9, ha9⟩; have HP9 := Lib.hid hp9; have HO9 := Lib.hid (show Sl 0 w9.heap.size f8 w9 v8 l0 from (by have h := ha9.own HO8.out (.inl rfl); have e := sects_flat l0 n (by rw [HN.out, HNN.out]; exact Nat.le_refl _); have e2 : (loaded l0 n).ls.flatten = l0 := (by show (sects l0 n).flatten = l0; rw [e, ← HNN.out, ← HN.out, List.take_length]); rw [e2] at h; exact (Sl.owns h (by rw [HN.out]; omega)).mono (Nat.zero_le _) (Nat.le_refl _))); clear hp9 ha9)
        | (go_at_call 41; refine (p_image HP7.out (by have := HBD.out.ls; exact this)).mono ?_; rintro e w8 ⟨v8, rfl, ho8, hf8, hp8, ha8⟩; obtain ⟨-, -, z2⟩ := pair_cells hp8.pair; have z3 : w8.cell? ⟨w6.heap.size + 1, 2, none⟩ = some (.pointer (some ⟨w6.heap.size, 0, none⟩)) := z2; clear z2; have HP8 := Lib.hid hp8; have HO8 := Lib.hid ho8; have HF8 := Lib.hid (show (loaded l0 n).ls.flatten.length ≤ 4194304 by rw [hf8]; have := HBD.out.ls; omega); clear hp8 ho8 hf8 ha8)
        | (go_at_call 43; refine (much_any (n : Int) ⟨by omega, by omega⟩ a1 cap1 l1 (HA.out.below HB6.out (Nat.le_refl _))).mono ?_; rintro e wz ⟨b6, rfl, hq6, q6, rfl⟩; have HQ6 := Lib.hid hq6; have HP7 := Lib.hid ((pr_start (HD6.out.below (drewN_b w6 q6)) HLO.out (HR6.out.below (drewN_b w6 q6)) HLO.out (HB6.out.trans ((drewN_b w6 q6).mono HB6.out.size))).reset _ (Nat.le_refl _)); clear hq6)
        | (go_at_call 30; refine (known5_any _).mono ?_; rintro e w6 ⟨rfl, hb6⟩; have HD6 := Lib.hid (HD5.out.below hb6); have HR6 := Lib.hid (HR5.out.below hb6); have HB6 := Lib.hid (HB5.out.trans (hb6.mono HB5.out.size)); clear hb6)
        | (go_at_call 49; refine (spoil_N HN.out (by omega) HBK4.out).mono ?_; rintro e w5 ⟨rfl, hg5⟩; have HD5 := Lib.hid (dk_spoil HD4.out HBK4.out hg5); have HR5 := Lib.hid (rd_spoil HR4.out HBK4.out hg5); have HB5 := Lib.hid (HB4.out.grown hg5 HB4.out.size (fun q hq => by injection hq with hq; have := HG2.out; omega)); clear hg5)
        | (go_at_call 48; refine (whole_N HN.out (by omega) HBK3.out (SLB.out w4 HB3.out)).mono ?_; rintro e wz ⟨rfl, n4, rfl⟩; have HBK4 := Lib.hid (show (w4.drewN n4).heap[g]? = some (.cells (l0.map f8 ++ [Value.int .u8 91, Value.int .u8 92]).toArray 5 (0, 0)) from HBK3.out); have HD4 := Lib.hid (HD3.out.below (drewN_b w4 n4)); have HR4 := Lib.hid (HR3.out.below (drewN_b w4 n4)); have HB4 := Lib.hid (HB3.out.trans ((drewN_b w4 n4).mono HB3.out.size)))
        | (go_at_call 47; refine (rload_any w3 bb off cap n N l0 (SLC.out w3 HB2c.out) h0 HN.out HNN.out hn).mono ?_; rintro e w4 ⟨RB, lv, rfl, hr4, hb4⟩; have HBK3 := Lib.hid ((hb4.block g (heap_lt' HBK2c.out)).trans HBK2c.out); have HD3 := Lib.hid ((HD2.out.below hb4)); have HR3 := Lib.hid ((rd_apart hr4 g (heap_lt' HBK2c.out)).low HLT.out); have HB3 := Lib.hid (HB2c.out.trans (hb4.mono HB2c.out.size)); clear hr4 hb4)
        | (go_at_call 46; refine (dload_any w2 g 0 (N + 2) n N l0 (lentC HN.out (by omega) HBK2.out) h0 HN.out HNN.out hn).mono ?_; rintro e w3 ⟨B, lb, bm, rfl, hd3, hb3⟩; have HD2 := Lib.hid (hd3.low HB2.out.size); have HB2c := Lib.hid (HB2.out.trans (hb3.mono HB2.out.size)); have HBK2c := Lib.hid ((hb3.block g (heap_lt' HBK2.out)).trans HBK2.out); have HLT := Lib.hid (show w.heap.size ≤ w3.heap.size by have := HB2.out.size; have := hb3.size; omega); clear hd3 hb3)
        | (go_at_call 45; refine (lent_N HN.out HS.out).mono ?_; rintro e w2 ⟨g, rfl, hge, hbk, hb2⟩; have HG2 := Lib.hid hge; have HB2 := Lib.hid hb2; have HBK2 := Lib.hid hbk; clear hge hb2 hbk))
    all_goals go_ret
    · exact ⟨rfl, HB6.out.trans ((drewN_b w6 q6).mono HB6.out.size)⟩
    · exact ⟨rfl, HB10.out⟩

theorem walk (v0 : Value) (l0 : List UInt8) (a1 : Option Addr) (cap1 : Nat) (l1 : List Actv) (w : World) (w0 : Sl 0 w.heap.size f8 w v0 l0) (w1 : Acts w.heap.size w a1 cap1 l1) :
    Calls Try.prog 9 #[v0, .slice a1 l1.length cap1] w fun e w' => e = .returned (.bool true) ∧ Below w.heap.size w w' := by
  obtain ⟨N, hN⟩ : ∃ N, l0.length = N := ⟨_, rfl⟩
  have hml := w1.len
  unfold maxLen at hml
  obtain ⟨ao, cap, rfl, hs⟩ := w0
  have hlen := hs.len
  have hS : Sl 0 w.heap.size f8 w (.slice ao N cap) l0 := ⟨_, _, by rw [hN], hs⟩
  rw [hN] at hlen ⊢
  by_cases hA : 4000000 < N ∧ N ≤ 4194304
  · exact walkA ao cap N _ w hA
  · by_cases h12 : N ≤ 12000000
    · by_cases hbad : N = 0 ∨ N % 256 ≠ 0 ∨ 4194304 < N
      · exact walkBad ao cap N l0 hN a1 cap1 l1 w hS hbad (by omega) h12
      · obtain ⟨bb, off, rfl, _⟩ := hs.cells (by intro e; rw [e] at hN; simp at hN; omega)
        exact walkGood bb off cap N (N / 256) l0 hN a1 cap1 l1 w hs w1 (by omega) (by omega) (by omega) (by omega)
    · exact walkB ao cap N _ w (by omega)
end Go.Proofs.Ytnplcfgjidolbaa.diskLoads
