/- DiskKeeps: the walk. -/
import Derived.Test.YtnplcfgjidolbaaKeepsPlain
namespace Go.Proofs.Ytnplcfgjidolbaa.diskKeeps
open Go.RowKit Go.Maps

theorem und43 : Try.prog.underlying 43 = some (.slice 22) := by kernel_rfl
theorem info22 : (Try.prog.info? 22).map (fun i => (i.zero, i.size, i.bytes)) = some (some (.slice none 0 0), 1, 24) := by kernel_rfl
/-- Sectors of noughts. -/
def noughts (m : Nat) : List (List UInt8) := List.replicate m (List.replicate 256 0)
theorem kstart {w wr : World} {B lb bm m : Nat} (h : Kd w wr B lb bm (newDsk ((m : Nat) : Int).toNat)) : Kc w wr B lb bm (noughts m) [] 0 := by
  rw [Int.toNat_natCast] at h
  exact ⟨_, h, rfl, rfl, rfl, rfl, ⟨Int.le_refl 0, Int.le_refl 0⟩, ⟨Int.le_refl 0, Int.le_refl 0⟩, ⟨Int.le_refl 0, Int.le_refl 0⟩⟩
/-- A list of rows is written: the disk is as it was. -/
theorem kcset {w wr : World} {B lb bm : Nat} {ls : List (List UInt8)} {cs : List (Nat × List UInt8)} {N g n c : Nat} {vs : List Value} (h : Kc w wr B lb bm ls cs N) (h1 : wr.ownsRow w.heap.size 22 1 (.slice (some ⟨g, 0, none⟩) n c) n vs) (j : Nat) (v : Value) : Kc w (wr.setCell ⟨g, j, none⟩ v) B lb bm ls cs N := by
  have hst := h1.stored j v
  obtain ⟨cs', hc⟩ := own_block h1 g rfl
  obtain ⟨d, ⟨⟨cv, hk⟩, hb⟩, e⟩ := h
  obtain ⟨k1, k2, k3, k4⟩ := hk.lts
  refine ⟨d, ⟨⟨cv, hk.other (hst.2.block B k1 (fun e => ?_)) (hst.2.block lb k2 (fun e => ?_)) (hst.2.block bm k3 (fun e => ?_)) (fun k hkk => hst.2.block k (k4 k hkk) (fun e => ?_))⟩, hb.grown hst.2 hb.size (fun k hkk => ?_)⟩, e⟩
  · injection e with e; exact block_ne hk.top hc (by decide) e
  · injection e with e; exact block_ne hk.las hc (by decide) e
  · injection e with e; obtain ⟨D, hm, _⟩ := hk.seen; exact map_not hm hc e
  · injection e with e; exact own_not hk.cache hc (by decide) (by rw [hkk, e])
  · injection hkk with hkk; have := (h1.lt g rfl).1; omega
theorem kcsector {w wr : World} {B lb bm N g : Nat} {ls LS : List (List UInt8)} {cs : List (Nat × List UInt8)} (h : Kc w wr B lb bm ls cs N) (hL : Lt w wr g LS) (x : UInt8) (z : Int) (hz : z = W8 x) :
    Calls Try.prog 33 #[.int .u8 z] wr fun e w' => ∃ ao cap, e = .returned (.slice ao 256 cap) ∧ Kc w w' B lb bm ls cs N ∧ Lt w w' g LS ∧ w'.ownsRow w.heap.size 5 1 (.slice ao 256 cap) (List.replicate 256 x).length ((List.replicate 256 x).map f8) ∧ Dfr w.heap.size wr w' := by
  refine (sector_any wr x z hz).mono ?_
  rintro e w' ⟨v, h1, h2, h3⟩
  obtain ⟨ao, cap, rfl⟩ := own_slice h2
  have hf := Dfr.ofBelow h3 h.below.size
  exact ⟨ao, cap, h1, h.step h3, hL.dfr hf, by rw [List.length_replicate]; exact own_low h2 h.below.size, hf⟩
/-- A sector's row is put into the list. -/
theorem lput {w wr : World} {B lb bm N g : Nat} {ls LS : List (List UInt8)} {cs : List (Nat × List UInt8)} (h : Kc w wr B lb bm ls cs N) (hL : Lt w wr g LS) (j : Nat) {v : Value} {s : List UInt8} (hv : wr.ownsRow w.heap.size 5 1 v s.length (s.map f8)) (hs : s.length = 256) :
    Kc w (wr.setCell ⟨g, j, none⟩ v) B lb bm ls cs N ∧ Lt w (wr.setCell ⟨g, j, none⟩ v) g (LS.set j s) ∧ (wr.setCell ⟨g, j, none⟩ v).ownsRow w.heap.size 5 1 v s.length (s.map f8) := by
  refine ⟨h.set hL j v, hL.set j hv hs, ?_⟩
  obtain ⟨vs, h1, _⟩ := hL
  have hst := h1.stored j v
  exact own_grown hst.2 hv (fun k hk => by
    injection hk with hk
    subst hk
    obtain ⟨cs, hc⟩ := own_block h1 g rfl
    exact ⟨cs, 22, _, hc, by decide⟩)
theorem set_len {m : Nat} (cs : List (Nat × List UInt8)) (f : Nat → Bool) : (settled (noughts m) cs f).length = m := by rw [settled_len]; unfold noughts; rw [List.length_replicate]
/-- A sector's piece of the image. -/
theorem piece {w wr : World} {ib ic k c : Nat} {LF : List (List UInt8)} (h : wr.ownsRow w.heap.size 5 1 (.slice (some ⟨ib, 0, none⟩) (k * 256) ic) (k * 256) (LF.flatten.map f8)) (h256 : ∀ s ∈ LF, s.length = 256) (hl : LF.length = k) (hc : c < LF.length) (cap : Nat) (hcap : 256 ≤ cap) :
    Sl 0 wr.heap.size f8 wr (.slice (some ⟨ib, c * 256, none⟩) 256 cap) LF[c] := by
  have hs := h256 LF[c] (List.getElem_mem hc)
  have hbl := (h.lt ib rfl).2
  refine ⟨some ⟨ib, c * 256, none⟩, cap, by rw [hs], by omega, (fun h => by cases h), fun _ => ⟨ib, c * 256, rfl, Nat.zero_le _, hbl, fun j hj => ?_⟩, by omega⟩
  have hle : (c + 1) * 256 ≤ k * 256 := Nat.mul_le_mul_right _ (by omega)
  rw [h.cellAt (c * 256 + j) (by omega)]
  have hf := flat_get (g := sec) (m := 256) LF (fun s hs => by rw [sec_len]; exact h256 s hs) c j hc (by omega)
  have e : LF.flatMap sec = LF.flatten.map f8 := by unfold sec; rw [List.map_flatten, List.flatMap_def]
  rw [e] at hf
  rw [hf]
  unfold sec
  rw [List.getElem?_map, List.getElem?_eq_getElem hj]
  rfl
theorem ksame256 {wr : World} {v v' : Value} {s s' : List UInt8} {b b' : Nat} (hv : wr.ownsRow b 5 1 v 256 (s.map f8)) (hv' : wr.ownsRow b' 5 1 v' 256 (s'.map f8)) :
    Calls Try.prog 16 #[v, v'] wr fun e w' => e = .returned (.bool (sameB s s')) ∧ ∃ n, w' = wr.drewN n := by
  have h1 : s.length = 256 := by simpa using hv.1
  have h2 : s'.length = 256 := by simpa using hv'.1
  exact ksame (by rw [h1]; exact hv) h1 (by rw [h2]; exact hv') h2
theorem zero_row : (List.replicate 256 (0 : UInt8)).map f8 = List.replicate 256 (.int .u8 0) := by rw [List.map_replicate]; rfl
theorem made_one (n : Nat) : (madeCells (Value.int .u8 0).cells (n * 1)).toList = List.replicate n (.int .u8 0) := by
  apply List.ext_getElem
  · simp [madeCells]
  · intro i h1 h2
    simp [madeCells, Value.cells, Nat.mod_one]

/-- A slice of bools that came in. -/
theorem bools_sl {w : World} {a : Addr} {len cap : Nat} {B : Nat → Bool} (hl : len ≤ cap) (hle : len ≤ 140737488351232) (h : ∀ i, i < cap → w.cell? (a.add i) = some (.bool (B i))) :
    ∃ l : List Bool, Sl 0 w.heap.size fB w (.slice (some a) len cap) l := by
  refine ⟨(List.range len).map B, some a, cap, by simp, by simp; omega, (fun h => by cases h), fun hne => ?_, by simp; exact hl⟩
  have h0 : 0 < len := by
    rcases Nat.eq_zero_or_pos len with e | e
    · subst e; simp at hne
    · exact e
  obtain ⟨b, off, spot⟩ := a
  have hspot : spot = none := by simpa [Addr.add] using World.cell?_spot (h 0 (by omega))
  subst hspot
  have hc : ∀ j, j < cap → w.cell? ⟨b, off + j, none⟩ = some (.bool (B j)) := fun j hj => by rw [← Go.WideShapes.add_plain]; exact h j hj
  refine ⟨b, off, rfl, Nat.zero_le _, block_lt_of_cell (hc 0 (by omega)), fun j hj => ?_⟩
  have hj' : j < len := by simpa using hj
  rw [hc j (by omega)]
  simp [fB]

set_option maxHeartbeats 4000000 in
set_option maxRecDepth 100000 in
theorem walkN (p : Nat) (hp : p < 256) (a1 a2 : Option Addr) (cap1 cap2 : Nat) (l1 l2 : List Nat) (kv : Value) (keep : List Bool) (w : World) (h1 : SlC 0 w.heap.size f16 w a1 cap1 l1) (h2 : SlC 0 w.heap.size f16 w a2 cap2 l2) (h116 : ∀ x ∈ l1, x < 65536) (h216 : ∀ x ∈ l2, x < 65536) (hk : Sl 0 w.heap.size fB w kv keep) :
    Calls Try.prog 7 #[.int .u8 (p : Int), .slice a1 l1.length cap1, .slice a2 l2.length cap2, kv] w fun e w' => e = .returned (.bool true) ∧ Below w.heap.size w w' := by
  obtain ⟨m, hm⟩ : ∃ m, m = p % 20 + 1 := ⟨_, rfl⟩
  have hm1 : (p : Int) % 20 + 1 = (m : Int) := by omega
  have hm2 : 0 < m ∧ m ≤ 20 := by omega
  have H1 := Lib.hid h1
  have H2 := Lib.hid h2
  have HK := Lib.hid hk
  have hl1 := h1.len
  have hl2 := h2.len
  obtain ⟨ka, kc, rfl, _⟩ := hk
  obtain ⟨i1, hi1, hy0, hy1, hy2⟩ := info_parts info22
  obtain ⟨i0, hi0, hz0, hz1, hz2⟩ := info_parts info5
  clear hm h1 h2
  go_enter Try.func7, Try.ntmps7
  go_wp2_with (first
    | (at_make; refine wpList_make_full _ rfl _ _ 43 rfl w.heap.size 22 i1 (.slice none 0 0) 1 und43 hi1 hy0 hy1 .i64 .i64 _ _ m rfl rfl rfl rfl (by rw [hy2]; omega) (by unfold maxLen; omega) K2.out.below.size ?_; intro w3 hown3 hgrow3; have O3 := Lib.hid hown3; have G3 := Lib.hid hgrow3; clear hown3 hgrow3)
    | (go_at_call 30; refine (known5_any w1).mono ?_; rintro e w2 ⟨rfl, hb⟩; have K2 := Lib.hid (K1.out.step hb); clear hb)
    | (go_at_call 29; refine (knew w (m : Int) (by omega) (by omega)).mono ?_; rintro e w1 ⟨B, lb, bm, rfl, hkd⟩; have K1 := Lib.hid (kstart hkd); clear hkd))
  have hw3 : Below w2.heap.size w2 w3 := (Below.refl _ _).grown G3.out (Nat.le_refl _) (fun k hk => by cases hk)
  have K3 := Lib.hid (K2.out.step hw3)
  have hbg : w.heap.size ≤ w2.heap.size := K2.out.below.size
  go_loopw [13] (fun i wr => ∃ (k : Nat) (vs : List Value), k ≤ m ∧ i = .int .i64 k ∧ Kc w wr B lb bm (noughts m) [] 0 ∧ wr.ownsRow w.heap.size 22 1 (.slice (some ⟨w2.heap.size, 0, none⟩) m m) m vs ∧ (∀ (j : Nat) (v : Value), j < k → vs[j]? = some v → wr.ownsRow w.heap.size 5 1 v 256 ((List.replicate 256 (0 : UInt8)).map f8))) (fun i _ => m - (intOf i).toNat)
  case atStart => exact ⟨0, _, Nat.zero_le _, rfl, K3.out, O3.out, fun j v hj => absurd hj (Nat.not_lt_zero _)⟩
  case round =>
    obtain ⟨k, vs, hkm, rfl, hkc, hown, hrows⟩ := hrel
    have K4 := Lib.hid hkc
    have O4 := Lib.hid hown
    have R4 := Lib.hid hrows
    have hvl : vs.length = m := by simpa using hown.1
    have hbw := hkc.below.size
    by_cases hlt : k < m
    · obtain ⟨u0, hu0⟩ : ∃ u0, wr.cell? ⟨w2.heap.size, k, none⟩ = some u0 := ⟨_, (hown.cellAt k (by omega)).trans (List.getElem?_eq_getElem (by omega))⟩
      have hgl := (hown.lt _ rfl).2
      have j1 : (0 : Int) ≤ (k : Int) ∧ (k : Int) < (m : Int) := by omega
      have hfz := hown.frozenAt k
      clear hkc hown hrows
      go_wp2_with (at_make; refine wpList_make_full _ rfl _ _ 22 rfl w.heap.size 5 i0 (.int .u8 0) 1 Try.underlying22 hi0 hz0 hz1 .i64 .i64 _ _ 256 rfl rfl rfl rfl (by rw [hz2]; omega) (by unfold maxLen; omega) hbw ?_; intro w4 hown4 hgrow4; have q1 := (World.cell?_of_block (a := ⟨w2.heap.size, k, none⟩) (hgrow4.block w2.heap.size hgl (by simp))).trans hu0; have q2 := (World.frozen?_of_block (a := ⟨w2.heap.size, k, none⟩) (hgrow4.block w2.heap.size hgl (by simp))).trans hfz; have O5 := Lib.hid hown4; have G5 := Lib.hid hgrow4; clear hown4 hgrow4)
      go_roundw
      case rel =>
        have hbl : Below wr.heap.size wr w4 := (Below.refl _ _).grown G5.out (Nat.le_refl _) (fun q hq => by cases hq)
        have ho : w4.ownsRow w.heap.size 22 1 (.slice (some ⟨w2.heap.size, 0, none⟩) m m) m vs := own_of_same O4.out (fun q hq => hbl.block q (O4.out.lt q hq).2)
        have hst := ho.stored k (.slice (some ⟨wr.heap.size, 0, none⟩) 256 256)
        have hkeep : ∀ {u : Value} {n : Nat} {xs : List Value}, w4.ownsRow w.heap.size 5 1 u n xs → (w4.setCell ⟨w2.heap.size, k, none⟩ (.slice (some ⟨wr.heap.size, 0, none⟩) 256 256)).ownsRow w.heap.size 5 1 u n xs := fun hu => own_grown hst.2 hu (fun q hq => by
          injection hq with hq
          subst hq
          obtain ⟨cs, hc⟩ := own_block ho w2.heap.size rfl
          exact ⟨cs, 22, _, hc, by decide⟩)
        refine ⟨k + 1, _, by omega, by push_cast; rfl, kcset (K4.out.step hbl) ho k _, hst.1, fun j v hj hv => ?_⟩
        by_cases he : j = k
        · subst he
          rw [List.getElem?_set_self (by omega)] at hv
          injection hv with hv
          subst hv
          rw [zero_row]
          have := O5.out
          rw [made_one] at this
          exact hkeep this
        · rw [List.getElem?_set_ne (fun e => he e.symm)] at hv
          exact hkeep (own_of_same (R4.out j v (by omega) hv) (fun q hq => hbl.block q ((R4.out j v (by omega) hv).lt q hq).2))
      case measure => simp [intOf]; omega
    · obtain rfl : k = m := by omega
      have hL : Lt w wr w2.heap.size (noughts k) := ⟨vs, by unfold noughts; rw [List.length_replicate]; exact hown, fun j v s hv hs => by
        have hj : j < k := by have := (List.getElem?_eq_some_iff.1 hv).1; omega
        have hs2 : s = List.replicate 256 0 := by
          unfold noughts at hs
          rw [List.getElem?_replicate, if_pos hj] at hs
          injection hs with hs
          exact hs.symm
        subst hs2
        rw [List.length_replicate]
        exact ⟨hrows j v hj hv, rfl⟩⟩
      have L4 := Lib.hid hL
      clear hkc hown hrows hL O4 R4
      go_wp2_with fail
      go_loopw [14] (fun i wr => ∃ q : Nat, q ≤ l1.length ∧ q ≤ 200 ∧ i = .int .i64 q ∧ Kc w wr B lb bm (noughts k) (acts k l1 q) q ∧ Lt w wr w2.heap.size (settled (noughts k) (acts k l1 q) (fun _ => true))) (fun i _ => 200 - (intOf i).toNat)
      case atStart => exact ⟨0, Nat.zero_le _, Nat.zero_le _, rfl, K4.out, L4.out⟩
      case round =>
        obtain ⟨q, hq, hq2, rfl, hkc, hlt'⟩ := hrel
        have K5 := Lib.hid hkc
        have L5 := Lib.hid hlt'
        by_cases hql : q < l1.length ∧ q < 200
        · obtain ⟨hql1, hql2⟩ := hql
          obtain ⟨b, off, rfl, _, hbh, hcell⟩ := (H1.out.below hkc.below (Nat.le_refl _)).cells (by intro e; subst e; simp at hql1)
          have hc1 := hcell q hql1
          have hx16 := h116 l1[q] (List.getElem_mem hql1)
          have i1 : (0 : Int) ≤ (q : Int) ∧ (q : Int) < (l1.length : Int) := by omega
          have hsu := acts_succ k l1 q hql1
          have hac := acts_len k l1 q (by omega)
          obtain ⟨x, hx⟩ : ∃ x, l1[q] = x := ⟨_, rfl⟩
          rw [hx] at hc1 hx16 hsu
          have hc2 : wr.cell? ⟨b, off + q, none⟩ = some (.int .u16 (x : Int)) := hc1
          obtain ⟨a, ha⟩ : ∃ a, x % k = a := ⟨_, rfl⟩
          rw [ha] at hsu
          have hak : a < k := by rw [← ha]; exact Nat.mod_lt _ hm2.1
          have hai : (x : Int) % (k : Int) = (a : Int) := by rw [← ha, Int.natCast_emod]
          have hx8 : (x : Int) / 256 = W8 (UInt8.ofNat (x / 256)) := by unfold W8; rw [UInt8.toNat_ofNat']; omega
          have i2 : (0 : Int) ≤ (a : Int) ∧ (a : Int) < (k : Int) := by omega
          have HX8 := Lib.hid hx8
          have HSU := Lib.hid hsu
          have HAC := Lib.hid hac
          obtain ⟨s, hs⟩ : ∃ s, List.replicate 256 (UInt8.ofNat (x / 256)) = s := ⟨_, rfl⟩
          have hsl : s.length = 256 := by rw [← hs, List.length_replicate]
          have HS := Lib.hid hs
          have HSL := Lib.hid hsl
          have HH1 := H1
          clear hcell hc1 hx hkc hlt' hsu hx8 ha hs hac hsl
          go_wp2_with (first
            | (go_at_call 32; refine (kcwrite K7.out (by unfold noughts; rw [List.length_replicate]; omega) (by rw [HAC.out]; omega) (by omega) (a : Int) (by unfold noughts; rw [List.length_replicate]; omega) _ s HSL.out _ V7.out).mono ?_; rintro e w8 ⟨rfl, hk8, hf8⟩; have K8 := Lib.hid hk8; have L8 := Lib.hid (L7.out.dfr hf8); clear hk8 hf8)
            | (go_at_call 33; refine (kcsector K5.out L5.out _ _ HX8.out).mono ?_; rintro e w6 ⟨va, vc, rfl, hk6, hl6, hv6, hf6⟩; rw [HS.out] at hv6; obtain ⟨u0, z1, _, _, z2⟩ := hl6.get a (by rw [set_len]; exact hak); obtain ⟨hk7, hl7, hv7⟩ := lput hk6 hl6 a hv6 HSL.out; have K7 := Lib.hid hk7; have L7 := Lib.hid hl7; have V7 := Lib.hid hv7; clear hk6 hl6 hv6 hf6 hk7 hl7 hv7))
          go_roundw
          case rel =>
            refine ⟨q + 1, by omega, by omega, by push_cast; rfl, ?_, ?_⟩
            · rw [HSU.out, HS.out]
              have := K8.out
              rw [Int.toNat_natCast] at this
              exact this
            · rw [HSU.out, HS.out, settled_snoc, if_pos rfl]
              exact L8.out
          case measure => simp [intOf]; omega
        · have hac := acts_len k l1 q (by omega)
          have HAC := Lib.hid hac
          have hcase : q = l1.length ∨ (q < l1.length ∧ q = 200) := by omega
          obtain ⟨LS, hLS⟩ : ∃ LS, settled (noughts k) (acts k l1 q) (fun _ => true) = LS := ⟨_, rfl⟩
          have hLl : LS.length = k := by rw [← hLS]; exact set_len _ _
          rw [hLS] at hlt'
          have HLS := Lib.hid hLS
          have L5b := Lib.hid hlt'
          have hkeep : ∀ W, Below w.heap.size w W → Sl 0 W.heap.size fB W (.slice ka keep.length kc) keep := fun W hW => (HK.out.below hW (Nat.le_refl _)).mono (Nat.zero_le _) hW.size
          have HKP := Lib.hid hkeep
          clear hkc hlt' hac hLS hkeep
          rcases hcase with hql | ⟨hql0, hql⟩
          all_goals
            subst hql
            go_wp2_with (first
              | (go_at_call 38; refine (kccut K6.out (by simp) _ keep (fun W hW => HKP.out W (K6.out.below.trans hW.below))).mono ?_; rintro e w7 ⟨rfl, hk7, hf7⟩; have K7 := Lib.hid hk7; have L7 := Lib.hid (L6.out.dfr hf7); clear hk7 hf7)
              | (go_at_call 40; refine (kcflush K5.out (by unfold noughts; rw [List.length_replicate]; omega) (by rw [HAC.out]; omega) (by omega)).mono ?_; rintro e w6 ⟨rfl, hk6, hf6⟩; rw [HLS.out] at hk6; have K6 := Lib.hid hk6; have L6 := Lib.hid (L5b.out.dfr hf6); clear hk6 hf6))
            go_loopw [16] (fun i wr => ∃ r : Nat, r ≤ l2.length ∧ r ≤ 200 ∧ i = .int .i64 r ∧ (∃ N, N ≤ 100000 + r ∧ Kc w wr B lb bm LS (acts k l2 r) N) ∧ Lt w wr w2.heap.size (settled LS (acts k l2 r) (fun i => keep.getD i false))) (fun i _ => 200 - (intOf i).toNat)
            case atStart => exact ⟨0, Nat.zero_le _, Nat.zero_le _, rfl, ⟨_, by omega, K7.out⟩, L7.out⟩
            case round =>
              obtain ⟨r, hr, hr2, rfl, ⟨N, hN, hkc⟩, hlt'⟩ := hrel
              have K9 := Lib.hid hkc
              have L9 := Lib.hid hlt'
              by_cases hrl : r < l2.length ∧ r < 200
              · obtain ⟨hrl1, hrl2⟩ := hrl
                obtain ⟨b, off, rfl, _, hbh, hcell⟩ := (H2.out.below hkc.below (Nat.le_refl _)).cells (by intro e; subst e; simp at hrl1)
                have hc1 := hcell r hrl1
                have hx16 := h216 l2[r] (List.getElem_mem hrl1)
                have i1 : (0 : Int) ≤ (r : Int) ∧ (r : Int) < (l2.length : Int) := by omega
                have hsu := acts_succ k l2 r hrl1
                have hac := acts_len k l2 r (by omega)
                obtain ⟨x, hx⟩ : ∃ x, l2[r] = x := ⟨_, rfl⟩
                rw [hx] at hc1 hx16 hsu
                have hc2 : wr.cell? ⟨b, off + r, none⟩ = some (.int .u16 (x : Int)) := hc1
                obtain ⟨a, ha⟩ : ∃ a, x % k = a := ⟨_, rfl⟩
                rw [ha] at hsu
                have hak : a < k := by rw [← ha]; exact Nat.mod_lt _ hm2.1
                have hai : (x : Int) % (k : Int) = (a : Int) := by rw [← ha, Int.natCast_emod]
                have hx8 : (x : Int) / 256 = W8 (UInt8.ofNat (x / 256)) := by unfold W8; rw [UInt8.toNat_ofNat']; omega
                have i2 : (0 : Int) ≤ (a : Int) ∧ (a : Int) < (k : Int) := by omega
                have HX8 := Lib.hid hx8
                have HSU := Lib.hid hsu
                have HAC := Lib.hid hac
                obtain ⟨s, hs⟩ : ∃ s, List.replicate 256 (UInt8.ofNat (x / 256)) = s := ⟨_, rfl⟩
                have hsl : s.length = 256 := by rw [← hs, List.length_replicate]
                have HS := Lib.hid hs
                have HSL := Lib.hid hsl
                have hss := settled_len LS (acts k l2 r) (fun i => keep.getD i false)
                have HSS := Lib.hid hss
                clear hcell hc1 hx hkc hlt' hsu hx8 ha hs hac hsl hss
                by_cases hrk : r < keep.length
                · have j1 : (0 : Int) ≤ (r : Int) ∧ (r : Int) < (keep.length : Int) := by omega
                  have hgd : keep.getD r false = keep[r] := by simp [List.getD, hrk]
                  obtain ⟨kb, hkb⟩ : ∃ kb, keep[r] = kb := ⟨_, rfl⟩
                  rw [hkb] at hgd
                  have HKB := Lib.hid hkb
                  clear hkb
                  cases kb
                  · have HGD := Lib.hid hgd
                    clear hgd
                    go_wp2_with (first
                      | (go_at_call 32; refine (kcwrite K10.out (by omega) (by rw [HAC.out]; omega) (by omega) (a : Int) (by omega) _ s HSL.out _ V10.out).mono ?_; rintro e w11 ⟨rfl, hk11, hf11⟩; have K11 := Lib.hid hk11; have L11 := Lib.hid (L10.out.dfr hf11); have V11 := Lib.hid (hf11.own V10.out (by decide) (by decide) (by decide)); obtain ⟨_, _, hkv, hksl⟩ := HKP.out w11 hk11.below; injection hkv with hkv1 _ hkv2; subst hkv1 hkv2; obtain ⟨qb, qo, hqa, _, _, hqc⟩ := hksl.cells (by intro e; subst e; simp at hrk); have hq1 := hqc r hrk; rw [HKB.out] at hq1; have hq2 : w11.cell? ⟨qb, qo + r, none⟩ = some (.bool false) := hq1; subst hqa; clear hqc hq1 hksl; clear hk11 hf11)
                      | (go_at_call 33; refine (kcsector K9.out L9.out _ _ HX8.out).mono ?_; rintro e w10 ⟨va, vc, rfl, hk10, hl10, hv10, hf10⟩; rw [HS.out] at hv10; have K10 := Lib.hid hk10; have L10 := Lib.hid hl10; have V10 := Lib.hid hv10; clear hk10 hl10 hv10 hf10))
                    go_roundw
                    case rel =>
                      refine ⟨r + 1, by omega, by omega, by push_cast; rfl, ⟨N + 1, by omega, ?_⟩, ?_⟩
                      · rw [HSU.out, HS.out]
                        have := K11.out
                        rw [Int.toNat_natCast] at this
                        exact this
                      · rw [HSU.out, HS.out, settled_snoc, if_neg (by rw [HAC.out, HGD.out]; decide)]
                        exact L11.out
                    case measure => simp [intOf]; omega
                  · have HGD := Lib.hid hgd
                    clear hgd
                    go_wp2_with (first
                      | (go_at_call 32; refine (kcwrite K10.out (by omega) (by rw [HAC.out]; omega) (by omega) (a : Int) (by omega) _ s HSL.out _ V10.out).mono ?_; rintro e w11 ⟨rfl, hk11, hf11⟩; have K11 := Lib.hid hk11; have L11 := Lib.hid (L10.out.dfr hf11); have V11 := Lib.hid (hf11.own V10.out (by decide) (by decide) (by decide)); obtain ⟨_, _, hkv, hksl⟩ := HKP.out w11 hk11.below; injection hkv with hkv1 _ hkv2; subst hkv1 hkv2; obtain ⟨qb, qo, hqa, _, _, hqc⟩ := hksl.cells (by intro e; subst e; simp at hrk); have hq1 := hqc r hrk; rw [HKB.out] at hq1; have hq2 : w11.cell? ⟨qb, qo + r, none⟩ = some (.bool true) := hq1; subst hqa; obtain ⟨u0, z1, _, _, z2⟩ := L11.out.get a (by rw [HSS.out]; omega); clear hqc hq1 hksl; clear hk11 hf11)
                      | (go_at_call 33; refine (kcsector K9.out L9.out _ _ HX8.out).mono ?_; rintro e w10 ⟨va, vc, rfl, hk10, hl10, hv10, hf10⟩; rw [HS.out] at hv10; have K10 := Lib.hid hk10; have L10 := Lib.hid hl10; have V10 := Lib.hid hv10; clear hk10 hl10 hv10 hf10))
                    obtain ⟨hk12, hl12, _⟩ := lput K11.out L11.out a V11.out HSL.out
                    have K12 := Lib.hid hk12
                    have L12 := Lib.hid hl12
                    clear hk12 hl12
                    go_roundw
                    case rel =>
                      refine ⟨r + 1, by omega, by omega, by push_cast; rfl, ⟨N + 1, by omega, ?_⟩, ?_⟩
                      · rw [HSU.out, HS.out]
                        have := K12.out
                        rw [Int.toNat_natCast] at this
                        exact this
                      · rw [HSU.out, HS.out, settled_snoc, if_pos (by rw [HAC.out, HGD.out])]
                        exact L12.out
                    case measure => simp [intOf]; omega
                · have j1 : ¬ ((r : Int) < (keep.length : Int)) := by omega
                  have hgd : keep.getD r false = false := by simp [List.getD, hrk]
                  have HGD := Lib.hid hgd
                  clear hgd
                  go_wp2_with (first
                    | (go_at_call 32; refine (kcwrite K10.out (by omega) (by rw [HAC.out]; omega) (by omega) (a : Int) (by omega) _ s HSL.out _ V10.out).mono ?_; rintro e w11 ⟨rfl, hk11, hf11⟩; have K11 := Lib.hid hk11; have L11 := Lib.hid (L10.out.dfr hf11); have V11 := Lib.hid (hf11.own V10.out (by decide) (by decide) (by decide)); clear hk11 hf11)
                    | (go_at_call 33; refine (kcsector K9.out L9.out _ _ HX8.out).mono ?_; rintro e w10 ⟨va, vc, rfl, hk10, hl10, hv10, hf10⟩; rw [HS.out] at hv10; have K10 := Lib.hid hk10; have L10 := Lib.hid hl10; have V10 := Lib.hid hv10; clear hk10 hl10 hv10 hf10))
                  go_roundw
                  case rel =>
                    refine ⟨r + 1, by omega, by omega, by push_cast; rfl, ⟨N + 1, by omega, ?_⟩, ?_⟩
                    · rw [HSU.out, HS.out]
                      have := K11.out
                      rw [Int.toNat_natCast] at this
                      exact this
                    · rw [HSU.out, HS.out, settled_snoc, if_neg (by rw [HAC.out, HGD.out]; decide)]
                      exact L11.out
                  case measure => simp [intOf]; omega
              · have hac := acts_len k l2 r (by omega)
                have HAC := Lib.hid hac
                have hcase2 : r = l2.length ∨ (r < l2.length ∧ r = 200) := by omega
                obtain ⟨LF, hLF⟩ : ∃ LF, settled LS (acts k l2 r) (fun i => keep.getD i false) = LF := ⟨_, rfl⟩
                have hFl : LF.length = k := by rw [← hLF, settled_len]; exact hLl
                rw [hLF] at hlt'
                have HLF := Lib.hid hLF
                have L9b := Lib.hid hlt'
                have hpk : ∀ (c : Nat), ((c * 256 : Nat) : Int) = (c : Int) * 256 := fun c => by omega
                clear hkc hlt' hac hLF
                rcases hcase2 with hr0 | ⟨hr00, hr0⟩
                all_goals
                  subst hr0
                  go_wp2_with (first
                    | (go_at_call 41; refine (kcimage K13.out (by omega)).mono ?_; rintro e w14 ⟨v14, rfl, hk14, ho14, hfl14, hf14⟩; obtain ⟨ia, ic, rfl⟩ := own_slice ho14; rw [hfl14, hFl] at ho14; have K14 := Lib.hid hk14; have O14 := Lib.hid ho14; have L14 := Lib.hid (L13.out.dfr hf14); clear hk14 ho14 hf14)
                    | (go_at_call 38; refine (kccut K9.out (by rw [HAC.out]; omega) _ keep (fun W hW => HKP.out W (K9.out.below.trans hW.below))).mono ?_; rintro e w13 ⟨rfl, hk13, hf13⟩; rw [HLF.out] at hk13; have K13 := Lib.hid hk13; have L13 := Lib.hid (L9b.out.dfr hf13); clear hk13 hf13))
                  go_loopw [20] (fun i wr => ∃ c : Nat, c ≤ k ∧ i = .int .i64 c ∧ (∃ N, N ≤ 200000 + c ∧ Kc w wr B lb bm LF [] N) ∧ Lt w wr w2.heap.size LF ∧ wr.ownsRow w.heap.size 5 1 (.slice ia (k * 256) ic) (k * 256) (LF.flatten.map f8)) (fun i _ => k - (intOf i).toNat)
                  case atStart => exact ⟨0, Nat.zero_le _, rfl, ⟨_, by omega, K14.out⟩, L14.out, O14.out⟩
                  case round =>
                    obtain ⟨c, hc, rfl, ⟨N2, hN2, hkc⟩, hL, hO⟩ := hrel
                    have K15 := Lib.hid hkc
                    have L15 := Lib.hid hL
                    have O15 := Lib.hid hO
                    by_cases hck : c < k
                    · obtain ⟨ib, ic', hia, _, _⟩ := own_shape hO (by omega)
                      injection hia with hia1 _ hia2
                      subst hia1 hia2
                      have h256 : ∀ s ∈ LF, s.length = 256 := by obtain ⟨d, ⟨⟨cv, hdk⟩, _⟩, _, _, e, _⟩ := hkc; rw [← e]; exact hdk.ok.1
                      have hcap : k * 256 ≤ ic := by
                        obtain ⟨_, h0 | ⟨_, _, _, hv, _, _, h3, _⟩⟩ := hO
                        · simp at h0
                        · injection hv with _ _ hv; omega
                      have hcF : c < LF.length := by omega
                      have hp16 := fun (wq : World) (hq : wq.ownsRow w.heap.size 5 1 (.slice (some ⟨ib, 0, none⟩) (k * 256) ic) (k * 256) (LF.flatten.map f8)) => piece (c := c) hq h256 hFl hcF (ic - c * 256) (by omega)
                      have hsm : sameB LF[c] LF[c] = true := by simp [sameB]
                      have e256 : (c + 1) * 256 - c * 256 = 256 := by omega
                      have HP16 := Lib.hid hp16
                      have E256 := Lib.hid e256
                      clear e256
                      clear hkc hL hO hp16
                      go_wp2_with (first
                        | (go_at_call 16; refine (C16.out n17).mono ?_; rintro e w18 ⟨rfl, n18, rfl⟩)
                        | (go_at_call 16; refine (ksame256 V16.out U16.out).mono ?_; rintro e w17 ⟨rfl, n17, rfl⟩)
                        | (go_at_call 39; refine (kcread K15.out (by omega) (by omega) c hcF).mono ?_; rintro e w16 ⟨v16, rfl, hk16, ho16, hs16, hf16⟩; obtain ⟨va, vc, rfl⟩ := own_slice ho16; have hl16 := L15.out.dfr hf16; obtain ⟨u16, y1, y2, _, _⟩ := hl16.get c hcF; rw [hs16] at ho16 y2; have K16 := Lib.hid hk16; have V16 := Lib.hid ho16; have U16 := Lib.hid y2; have S16 := Lib.hid hs16; have L16 := Lib.hid hl16; have O16 := Lib.hid (hf16.own O15.out (by decide) (by decide) (by decide)); have C16 := Lib.hid (show ∀ n17, Calls Try.prog 16 #[.slice (some ⟨ib, c * 256, none⟩) ((c + 1) * 256 - c * 256) (ic - c * 256), .slice va 256 vc] (w16.drewN n17) (fun e w' => e = .returned (.bool true) ∧ ∃ n, w' = (w16.drewN n17).drewN n) from fun n17 => by rw [E256.out, ← hsm]; exact same_any 0 _ 0 _ _ _ _ _ _ (HP16.out _ (own_of_same (w' := w16.drewN n17) O16.out (fun _ _ => rfl))) (Sl.mono (Sl.owns (own_of_same (w' := w16.drewN n17) (show w16.ownsRow w.heap.size 5 1 (.slice va 256 vc) LF[c].length (LF[c].map f8) by rw [S16.out]; exact V16.out) (fun _ _ => rfl)) (by rw [S16.out]; omega)) (Nat.zero_le _) (Nat.le_refl _))); clear y2 hl16 hk16 ho16 hs16 hf16))
                      go_roundw
                      case rel => exact ⟨c + 1, by omega, by push_cast; rfl, ⟨N2 + 1, by omega, K16.out.step (drewN_b _ (n17 + n18))⟩, L16.out.dfr (Dfr.ofBelow (drewN_b _ (n17 + n18)) K16.out.below.size), own_of_same (w' := w16.drewN (n17 + n18)) O16.out (fun _ _ => rfl)⟩
                      case measure => simp [intOf]; omega
                    · obtain rfl : c = k := by omega
                      go_wp2_with (go_at_call 35; refine (kcpending K15.out).mono ?_; rintro e w19 ⟨pa, pc, rfl, hb19⟩; have B19 := Lib.hid hb19; clear hb19)
                      go_ret
                      exact ⟨rfl, B19.out⟩
theorem walk (a0 : Int) (a1 : Option Addr) (len1 cap1 : Nat) (z1 : List Int) (a2 : Option Addr) (len2 cap2 : Nat) (z2 : List Int) (v3 : Value) (l3 : List Bool) (w : World) (w0 : (Lit.int .u8 a0).wf = true) (w1 : IsRow .u16 w a1 len1 cap1 z1) (b1 : len1 ≤ 140737488351232) (w2 : IsRow .u16 w a2 len2 cap2 z2) (b2 : len2 ≤ 140737488351232) (w3 : Sl 0 w.heap.size fB w v3 l3) :
    Calls Try.prog 7 #[.int .u8 a0, .slice a1 len1 cap1, .slice a2 len2 cap2, v3] w fun e w' => e = .returned (.bool true) ∧ Below w.heap.size w w' := by
  obtain ⟨p, rfl, hp⟩ := of_wf8' w0
  obtain ⟨l1, rfl, h1, h116⟩ := w1.sl16 (by omega)
  obtain ⟨l2, rfl, h2, h216⟩ := w2.sl16 (by omega)
  exact walkN p hp a1 a2 cap1 cap2 l1 l2 v3 l3 w h1 h2 h116 h216 w3
end Go.Proofs.Ytnplcfgjidolbaa.diskKeeps
