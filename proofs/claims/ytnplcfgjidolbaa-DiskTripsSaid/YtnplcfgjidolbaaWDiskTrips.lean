/- DiskTrips: the walk. -/
import Derived.Test.YtnplcfgjidolbaaTripPlain
namespace Go.Proofs.Ytnplcfgjidolbaa.diskTrips
open Go.RowKit Go.Maps

section
variable {w wr : World} {B lb bm : Nat} {m t : Nat} {l : List Nat} {i : Nat}
theorem twrite (h : Kd w wr B lb bm (trips m t l i)) (hm : 0 < m) (hm2 : m ≤ 100) (ht : t ≤ 100) (hi : i < l.length) (v : Value) (b0 : Nat) (hv : wr.ownsRow b0 5 1 v (List.replicate 256 (UInt8.ofNat (l[i] / 256))).length ((List.replicate 256 (UInt8.ofNat (l[i] / 256))).map f8)) :
    Calls Try.prog 32 #[.pointer (some ⟨B, 0, none⟩), .int .i64 ((l[i] : Int) % (m : Int)), v] wr fun e w' => e = .returned (.int .u16 (if i < t then 0 else 4)) ∧ Kd w w' B lb bm (trips m t l (i + 1)) ∧ Dfr w.heap.size wr w' := by
  obtain ⟨⟨cv, h1⟩, h2⟩ := h
  have e : ((l[i] : Int) % (m : Int)) = ((l[i] % m : Nat) : Int) := by rw [Int.natCast_emod]
  rw [e]
  refine (dwrite_any wr w.heap.size B lb bm cv _ _ v _ b0 h1 hv (trips_small m t l i hm2 ht (Nat.le_of_lt hi))).mono ?_
  rintro e w' ⟨he, cv', hd', hf⟩
  rw [trips_put m t l i hm hi] at he hd'
  exact ⟨he, ⟨⟨cv', hd'⟩, h2.trans hf.below⟩, hf⟩
theorem tpending (h : Kd w wr B lb bm (trips m t l i)) (hi : i ≤ l.length) (hi2 : i ≤ 1000) (zs : List Int) (hz : zs = (acts m l (min i t)).map fun c => (c.1 : Int)) :
    Calls Try.prog 35 #[.pointer (some ⟨B, 0, none⟩)] wr fun e w' => ∃ v, e = .returned v ∧ w'.ownsRow w.heap.size 3 1 v zs.length (zs.map fI) ∧ Kd w w' B lb bm (trips m t l i) ∧ Dfr w.heap.size wr w' := by
  have hsub := hz
  subst hsub
  have hk := h
  obtain ⟨⟨cv, h1⟩, h2⟩ := h
  have hcs := trips_cs m t l i
  have hal := acts_len m l (min i t) (by omega)
  refine (pending_any wr w.heap.size B lb bm cv _ h1 (by rw [hcs, hal]; omega)).mono ?_
  rintro e w' ⟨v, he, ho, hb⟩
  rw [hcs] at ho
  refine ⟨v, he, ?_, hk.step hb, Dfr.ofBelow hb h2.size⟩
  rw [List.length_map, List.map_map]
  exact own_low ho h2.size
theorem ttrip (h : Kd w wr B lb bm (newDsk ((m : Nat) : Int).toNat)) : Calls Try.prog 31 #[.pointer (some ⟨B, 0, none⟩), .int .i64 (t : Int)] wr fun e w' => e = .returned (.int .u16 0) ∧ Kd w w' B lb bm (trips m t l 0) := by
  obtain ⟨⟨cv, h1⟩, h2⟩ := h
  rw [Int.toNat_natCast] at h1
  refine (trip_any h1 (t : Int)).mono ?_
  rintro e w' ⟨he, hd', hf⟩
  rw [trips_start m t l] at he hd'
  exact ⟨he, ⟨cv, hd'⟩, h2.trans hf.below⟩
/-- A row of integers of the call's own is lengthened. -/
theorem kgrow {w' : World} {d : Dsk} (h : Kd w wr B lb bm d) {v : Value} {n : Nat} {xs : List Value} (hv : wr.ownsRow w.heap.size 3 1 v n xs) (g : wr.grownBy w' v.ownBlock) : Kd w w' B lb bm d := by
  obtain ⟨⟨cv, h1⟩, h2⟩ := h
  obtain ⟨k1, k2, k3, k4⟩ := h1.lts
  refine ⟨⟨cv, h1.other (g.block B k1 (own_not hv h1.top (by decide))) (g.block lb k2 (own_not hv h1.las (by decide))) (g.block bm k3 (fun e => ?_)) (fun k hk => g.block k (k4 k hk) (fun e => ?_))⟩, h2.grown g h2.size (fun k hk => (hv.lt k hk).1)⟩
  · obtain ⟨D, hm, _⟩ := h1.seen
    obtain ⟨cs, hc⟩ := own_block hv bm e.symm
    exact map_not hm hc rfl
  · obtain ⟨cs, hc⟩ := own_block hv k e.symm
    exact own_not h1.cache hc (by decide) hk.symm
theorem tcut (h : Kd w wr B lb bm (trips m t l i)) (hi : i ≤ l.length) (hi2 : i ≤ 1000) :
    Calls Try.prog 38 #[.pointer (some ⟨B, 0, none⟩), .slice none 0 0] wr fun e w' => e = .returned (.tuple #[]) ∧ Kd w w' B lb bm (calm (List.replicate m (List.replicate 256 0)) [] 0 ((min i t : Nat) : Int)) := by
  have hcs := trips_cs m t l i
  have hal := acts_len m l (min i t) (by omega)
  refine (kcut h (by rw [hcs, hal]; omega) (.slice none 0 0) [] (fun W _ => Sl.nil _ _ _ _)).mono ?_
  rintro e w' ⟨he, hd', _⟩
  rw [settled_none, trips_ls, trips_wr, (trips_rd m t l i).1, (trips_rd m t l i).2] at hd'
  exact ⟨he, hd'⟩
theorem tcounts (h : Kd w wr B lb bm (trips m t l i)) : Calls Try.prog 36 #[.pointer (some ⟨B, 0, none⟩)] wr fun e w' => e = .returned (.agg #[.int .i64 0, .int .i64 ((min i t : Nat) : Int), .int .i64 0]) ∧ Kd w w' B lb bm (trips m t l i) ∧ Dfr w.heap.size wr w' := by
  refine (kcounts h).mono ?_
  rintro e w' ⟨he, h1, h2⟩
  rw [trips_wr, (trips_rd m t l i).1, (trips_rd m t l i).2] at he
  exact ⟨he, h1, h2⟩
theorem tdark (h : Kd w wr B lb bm (trips m t l (i + 1))) (b : Bool) (hb : decide (t ≤ i) = b) : Calls Try.prog 34 #[.pointer (some ⟨B, 0, none⟩)] wr fun e w' => e = .returned (.bool b) ∧ wr = w' := by
  refine (kdark h).mono ?_
  rintro e w' ⟨he, hw⟩
  rw [trips_dark, hb] at he
  exact ⟨he, hw⟩
end

set_option maxHeartbeats 4000000 in
set_option maxRecDepth 100000 in
theorem walk (a0 : Int) (a1 : Int) (a2 : Option Addr) (len2 cap2 : Nat) (z2 : List Int) (w : World) (w0 : (Lit.int .u8 a0).wf = true) (w1 : (Lit.int .u8 a1).wf = true) (w2 : IsRow .u16 w a2 len2 cap2 z2) (b2 : len2 ≤ 140737488351232) :
    Calls Try.prog 6 #[.int .u8 a0, .int .u8 a1, .slice a2 len2 cap2] w fun e w' => e = .returned (.bool true) ∧ Below w.heap.size w w' := by
  obtain ⟨p, rfl, hp⟩ := of_wf8' w0
  obtain ⟨q, rfl, hq⟩ := of_wf8' w1
  obtain ⟨l, rfl, hsl, hl16⟩ := w2.sl16 (by omega)
  clear w2 w0 w1 z2
  obtain ⟨m, hm⟩ : ∃ m, m = p % 20 + 1 := ⟨_, rfl⟩
  obtain ⟨t, ht⟩ : ∃ t, t = q % 40 := ⟨_, rfl⟩
  have hm1 : (p : Int) % 20 + 1 = (m : Int) := by omega
  have ht1 : (q : Int) % 40 = (t : Int) := by omega
  have hm2 : 0 < m ∧ m ≤ 20 := by omega
  have ht2 : t < 40 := by omega
  have HSL := Lib.hid hsl
  obtain ⟨i3, hi3, hx0, hx1, hx2⟩ := info_parts info3
  clear hsl hm ht
  go_enter Try.func6, Try.ntmps6
  go_wp2_with (first
    | (go_at_call 31; refine (ttrip (l := l) K2.out).mono ?_; rintro e w3 ⟨rfl, hk3⟩; have K3 := Lib.hid hk3; clear hk3)
    | (go_at_call 30; refine (known5_any w1).mono ?_; rintro e w2 ⟨rfl, hb⟩; have K2 := Lib.hid (K1.out.step hb); clear hb)
    | (go_at_call 29; refine (knew w (m : Int) (by omega) (by omega)).mono ?_; rintro e w1 ⟨B, lb, bm, rfl, hk⟩; have K1 := Lib.hid hk; clear hk))
  go_loopw [12, 13] (fun ov i wr => ∃ (k : Nat) (zs : List Int), i = .int .i64 k ∧ k ≤ l.length ∧ k ≤ 200 ∧ zs = (acts m l (min k t)).map (fun c => (c.1 : Int)) ∧ Kd w wr B lb bm (trips m t l k) ∧ wr.ownsRow w.heap.size 3 1 ov zs.length (zs.map fI)) (fun _ i _ => 200 - (intOf i).toNat)
  case atStart => exact ⟨0, [], rfl, Nat.zero_le _, Nat.zero_le _, by rw [Nat.zero_min]; rfl, K3.out, World.ownsRow_nil _ _ _ _⟩
  case round =>
    obtain ⟨k, zs, rfl, hk, hk2, hzs, hkd, hown⟩ := hrel
    obtain ⟨oa, oc, hov⟩ := own_slice hown
    subst hov
    have HZ := Lib.hid hzs
    have K4 := Lib.hid hkd
    have O4 := Lib.hid hown
    have hzl : zs.length = min k t := by rw [hzs, List.length_map, acts_len m l (min k t) (by omega)]
    have HZL := Lib.hid hzl
    have hzb : zs.length ≤ 200 := by omega
    clear hzs hzl
    by_cases hlt : k < l.length ∧ k < 200
    · obtain ⟨hll, hlm⟩ := hlt
      obtain ⟨b, off, rfl, _, hbh, hcell⟩ := (HSL.out.below hkd.2 (Nat.le_refl _)).cells (by intro e; subst e; simp at hll)
      have hc1 := hcell k hll
      have hx16 := hl16 l[k] (List.getElem_mem hll)
      have i1 : (0 : Int) ≤ (k : Int) ∧ (k : Int) < (l.length : Int) := by omega
      have hsu := acts_succ m l k hll
      obtain ⟨x, hx⟩ : ∃ x, l[k] = x := ⟨_, rfl⟩
      have HW : ∀ (wq : World) (v : Value) (b0 : Nat), Kd w wq B lb bm (trips m t l k) → wq.ownsRow b0 5 1 v (List.replicate 256 (UInt8.ofNat (x / 256))).length ((List.replicate 256 (UInt8.ofNat (x / 256))).map f8) →
          Calls Try.prog 32 #[.pointer (some ⟨B, 0, none⟩), .int .i64 ((x : Int) % (m : Int)), v] wq fun e w' => e = .returned (.int .u16 (if k < t then 0 else 4)) ∧ Kd w w' B lb bm (trips m t l (k + 1)) ∧ Dfr w.heap.size wq w' := by
        subst hx
        exact fun wq v b0 h1 h2 => twrite h1 hm2.1 (by omega) (by omega) hll v b0 h2
      have HW := Lib.hid HW
      rw [hx] at hc1 hx16 hsu
      have hc2 : wr.cell? ⟨b, off + k, none⟩ = some (.int .u16 (x : Int)) := hc1
      have hx8 : (x : Int) / 256 = W8 (UInt8.ofNat (x / 256)) := by unfold W8; rw [UInt8.toNat_ofNat']; omega
      have HX8 := Lib.hid hx8
      have HSU := Lib.hid hsu
      have HX := Lib.hid hx
      clear hcell hc1 hx hkd hown hsu hx8
      by_cases hkt : k < t
      · have g1 : decide ((k : Int) < (t : Int)) = true := decide_eq_true (by omega)
        have g2 : decide ((t : Int) ≤ (k : Int)) = false := decide_eq_false (by omega)
        have g3 : decide (t ≤ k) = false := decide_eq_false (by omega)
        have g4 : decide (k < t) = true := decide_eq_true (by omega)
        go_wp2_with (first
          | (at_builtin; refine wpList_append_stay _ rfl (.tmp 97) (.tmp 99) 96 rfl w.heap.size 3 i3 (.int .i64 0) 8 und96 hi3 hx0 hx1 hx2 rfl (.slice oa zs.length oc) zs.length _ rfl (O6.out.alloc _) ⟨w6.heap.size, 0, none⟩ 1 (.int .i64 ((x : Int) % (m : Int))) rfl (news_alloc w6 [.int .i64 ((x : Int) % (m : Int))] 3) rfl (by unfold maxLen; omega) (by omega) (by simp; have := K6.out.2.size; omega) ?_; intro g cap w7 hown7 hst7 hgl; have O7 := Lib.hid hown7; have S7 := Lib.hid hst7; clear hown7 hst7 hgl)
          | (go_at_call 34; refine (tdark K6.out false (decide_eq_false (by omega))).mono ?_; rintro e wq ⟨rfl, rfl⟩)
          | (go_at_call 32; refine (HW.out w5 v5 _ K5.out V5.out).mono ?_; rintro e w6 ⟨he, hk6, hf6⟩; rw [if_pos hkt] at he; subst he; have K6 := Lib.hid hk6; have O6 := Lib.hid (hf6.own O5.out (by decide) (by decide) (by decide)); clear hk6 hf6)
          | (go_at_call 33; refine (ksector K4.out _ _ HX8.out).mono ?_; rintro e w5 ⟨v5, rfl, hk5, ho5, hf5⟩; have K5 := Lib.hid hk5; have V5 := Lib.hid ho5; have O5 := Lib.hid (hf5.own O4.out (by decide) (by decide) (by decide)); clear hk5 ho5 hf5))
        go_roundw
        case rel =>
          have hgr := grown_alloc' S7.out.grown'
          refine ⟨k + 1, zs ++ [((x % m : Nat) : Int)], by push_cast; rfl, hll, hlm, ?_, kgrow K6.out O6.out hgr, ?_⟩
          · rw [HZ.out, Nat.min_eq_left (by omega : k ≤ t), Nat.min_eq_left (by omega : k + 1 ≤ t), HSU.out, List.map_append]
            rfl
          · have := O7.out
            rw [List.length_append, List.map_append]
            exact this
        case measure => simp [intOf]; omega
      · have g1 : decide ((k : Int) < (t : Int)) = false := decide_eq_false (by omega)
        have g2 : decide ((t : Int) ≤ (k : Int)) = true := decide_eq_true (by omega)
        have g3 : decide (t ≤ k) = true := decide_eq_true (by omega)
        have g4 : decide (k < t) = false := decide_eq_false (by omega)
        go_wp2_with (first
          | (go_at_call 34; refine (tdark K6.out true (decide_eq_true (by omega))).mono ?_; rintro e wq ⟨rfl, rfl⟩)
          | (go_at_call 32; refine (HW.out w5 v5 _ K5.out V5.out).mono ?_; rintro e w6 ⟨he, hk6, hf6⟩; rw [if_neg hkt] at he; subst he; have K6 := Lib.hid hk6; have O6 := Lib.hid (hf6.own O5.out (by decide) (by decide) (by decide)); clear hk6 hf6)
          | (go_at_call 33; refine (ksector K4.out _ _ HX8.out).mono ?_; rintro e w5 ⟨v5, rfl, hk5, ho5, hf5⟩; have K5 := Lib.hid hk5; have V5 := Lib.hid ho5; have O5 := Lib.hid (hf5.own O4.out (by decide) (by decide) (by decide)); clear hk5 ho5 hf5))
        go_roundw
        case rel =>
          refine ⟨k + 1, zs, by push_cast; rfl, hll, hlm, ?_, K6.out, O6.out⟩
          rw [HZ.out, Nat.min_eq_right (by omega : t ≤ k), Nat.min_eq_right (by omega : t ≤ k + 1)]
        case measure => simp [intOf]; omega
    · have hcase : k = l.length ∨ (k < l.length ∧ k = 200) := by omega
      have hsame : sameI zs zs = true := by simp [sameI]
      have hwl : ((min k t : Nat) : Int) = (zs.length : Int) := by rw [HZL.out]
      have HWL := Lib.hid hwl
      clear hwl
      rcases hcase with hkl | ⟨hlt2, hkl⟩
      all_goals
        subst hkl
        go_wp2_with (first
          | (go_at_call 34; refine (kdark K9.out).mono ?_; rintro e wq ⟨he, rfl⟩; have he : e = .returned (.bool false) := he; subst he)
          | (go_at_call 39; refine (cread K8.out ⟨by rw [List.length_replicate]; omega, by simp, by omega, by rw [HWL.out]; omega⟩ 0 (by rw [List.length_replicate]; omega) _ rfl).mono ?_; rintro e w9 ⟨v9, rfl, hk9, _, _, _⟩; have K9 := Lib.hid hk9; clear hk9)
          | (go_at_call 38; refine (tcut (K7.out.step (drewN_b _ n7)) (Nat.le_of_not_lt (by omega)) (by omega)).mono ?_; rintro e w8 ⟨rfl, hk8⟩; have K8 := Lib.hid hk8; clear hk8)
          | (go_at_call 37; refine (sameI_any _ _ _ _ _ v5 _ zs zs P6.out Q6.out).mono ?_; rintro e w7 ⟨rfl, n7, rfl⟩)
          | (go_at_call 36; refine (tcounts K5.out).mono ?_; rintro e w6 ⟨he, hk6, hf6⟩; rw [HWL.out] at he; subst he; have K6 := Lib.hid hk6; have hb7 : Below w6.heap.size w6 (w6.alloc (.cells #[.int .i64 0, .int .i64 (zs.length : Int), .int .i64 0] 101)) := (Below.refl _ _).alloc (Nat.le_refl _) _; have K7 := Lib.hid (hk6.step hb7); have P6 := Lib.hid (Sl.owns ((hf6.own O5.out (by decide) (by decide) (by decide)).alloc (.cells #[.int .i64 0, .int .i64 (zs.length : Int), .int .i64 0] 101)) (by omega)); have Q6 := Lib.hid (Sl.owns ((hf6.own R5.out (by decide) (by decide) (by decide)).alloc (.cells #[.int .i64 0, .int .i64 (zs.length : Int), .int .i64 0] 101)) (by omega)); clear hk6 hf6 hb7)
          | (go_at_call 35; refine (tpending K4.out (by omega) (by omega) zs HZ.out).mono ?_; rintro e w5 ⟨v5, rfl, ho5, hk5, hf5⟩; have K5 := Lib.hid hk5; have O5 := Lib.hid ho5; have R5 := Lib.hid (hf5.own O4.out (by decide) (by decide) (by decide)); clear ho5 hk5 hf5))
        go_ret
        exact ⟨rfl, K9.out.2⟩
end Go.Proofs.Ytnplcfgjidolbaa.diskTrips
