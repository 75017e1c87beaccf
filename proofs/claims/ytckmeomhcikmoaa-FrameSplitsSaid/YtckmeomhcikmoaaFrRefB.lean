/- barographref11.piece: what it returns. -/
import Derived.Test.YtckmeomhcikmoaaFrRefA
import Derived.Test.YtckmeomhcikmoaaFrPiece
import Derived.Deep.RegionWith
import Derived.Deep.RegionHeld3
namespace Go.Proofs.Ytckmeomhcikmoaa
open Go.RowKit
set_option maxRecDepth 100000
set_option maxHeartbeats 2000000

theorem conv_own {w : World} {base g c : Nat} {l : List UInt8} (h : w.ownsRow base 5 1 (.slice (some ⟨g, 0, none⟩) 256 c) 256 (l.map f8)) (hl : l.length = 256) (h2 : 256 ≤ 140737488355328) :
    (convert 23 9 (.slice (some ⟨g, 0, none⟩) 256 c)).run Try.prog w = .ok (.string (strB l)) w := by
  obtain ⟨ao, cap, he, hs⟩ := sl_own h hl h2
  have := conv_sl hs
  rw [← he] at this
  exact this

theorem rpiece_any (lo hi : Nat) (w : World) (seg : BitVec 32) (j : Nat) (hj : j ≤ 1000000000) (v : Value) (b : List UInt8) (hv : Sl lo hi f8 w v b) (hhi : hi ≤ w.heap.size) :
    Calls Try.prog 73 #[.int .u32 (W32 seg), .int .i64 j, v] w fun e w' => ∃ u, e = .returned (.tuple #[.int .i64 (W8 (Fr.piece seg j b).1), u]) ∧ Sl lo hi f8 w' u (Fr.piece seg j b).2 ∧ Below w.heap.size w w' := by
  obtain ⟨ao, cap, rfl, hv⟩ := hv
  by_cases hl : b.length = 256
  · obtain ⟨blk, off, rfl, hlo, hb, hc⟩ := hv.cells (by intro e; subst e; simp at hl)
    have c2 := hc 2 (by omega)
    have c10 := hc 10 (by omega)
    have c11 := hc 11 (by omega)
    have hle := hv.le
    obtain ⟨k, hk⟩ : ∃ k, Hid (k = b[2]) := ⟨_, Lib.hid rfl⟩
    obtain ⟨x, hx⟩ : ∃ x, Hid (x = b[10]) := ⟨_, Lib.hid rfl⟩
    obtain ⟨y, hy⟩ : ∃ y, Hid (y = b[11]) := ⟨_, Lib.hid rfl⟩
    rw [← hk.out, f8] at c2
    rw [← hx.out, f8] at c10
    rw [← hy.out, f8] at c11
    clear hc
    have l0 := W8_lt k
    have l1 := W8_lt x
    have l2 := W8_lt y
    by_cases h65 : 65535 < j
    · have hi65 : (65535 : Int) < (j : Int) := by omega
      have hp : Fr.piece seg j b = (0, []) := by unfold Fr.piece; rw [if_pos (.inr h65)]
      rw [hp]
      clear hp
      go_enter Try.func73, Try.ntmps73
      rw [hl]
      go_wp2
      go_ret2
      exact ⟨_, rfl, Sl.nil _ _ _ _, Below.refl _ _⟩
    have hi65 : ¬ (65535 : Int) < (j : Int) := by omega
    obtain ⟨n, hn⟩ : ∃ n : Nat, n = Fr.lenOf b := ⟨_, rfl⟩
    have hsum : W8 x + 256 * W8 y = (n : Int) := by
      rw [hn, W8_def, W8_def, hx.out, hy.out]
      unfold Fr.lenOf
      rw [List.getD_eq_getElem?_getD, List.getD_eq_getElem?_getD, List.getElem?_eq_getElem (by omega), List.getElem?_eq_getElem (by omega)]
      simp
    have hw1 : IntKind.i64.wrap (256 * W8 y) = 256 * W8 y := by rw [IntKind.wrap_i64]; omega
    have hw2 : IntKind.i64.wrap (W8 x + 256 * W8 y) = (n : Int) := by rw [← hsum, IntKind.wrap_i64]; omega
    have HN := Lib.hid hn
    have HK : Hid (k = Fr.kindAt b) := Lib.hid (by rw [hk.out]; unfold Fr.kindAt; rw [List.getD_eq_getElem?_getD, List.getElem?_eq_getElem (by omega)]; rfl)
    clear hn
    have pn : ∀ (_ : 240 < n ∨ W8 k < 1 ∨ 4 < W8 k), Fr.piece seg j b = (0, []) := fun hbad => by
      unfold Fr.piece
      rw [if_neg (by omega), if_pos]
      rw [← HN.out, ← HK.out]
      unfold W8 at hbad
      omega
    by_cases h240 : 240 < n
    · have g1 : (240 : Int) < (n : Int) := by omega
      rw [pn (.inl h240)]
      clear pn
      go_enter Try.func73, Try.ntmps73
      rw [hl]
      go_wp2
      go_quiet (fail)
      go_wp2
      go_ret2
      exact ⟨_, rfl, Sl.nil _ _ _ _, (Below.refl _ _).trans (drew_below _ _ _)⟩
    have g1 : ¬ (240 : Int) < (n : Int) := by omega
    by_cases h1 : W8 k < 1
    · rw [pn (.inr (.inl h1))]
      clear pn
      go_enter Try.func73, Try.ntmps73
      rw [hl]
      go_wp2
      go_quiet (fail)
      go_wp2
      go_ret2
      exact ⟨_, rfl, Sl.nil _ _ _ _, (Below.refl _ _).trans (drew_below _ _ _)⟩
    by_cases h4 : 4 < W8 k
    · rw [pn (.inr (.inr h4))]
      clear pn
      go_enter Try.func73, Try.ntmps73
      rw [hl]
      go_wp2
      go_quiet (fail)
      go_wp2
      go_ret2
      exact ⟨_, rfl, Sl.nil _ _ _ _, (Below.refl _ _).trans (drew_below _ _ _)⟩
    clear pn
    have hpick : (Fr.pick b).length = n := by unfold Fr.pick; rw [List.length_take, List.length_drop, ← HN.out]; omega
    have hslen := Fr.sect_len k seg j (p := Fr.pick b) (by rw [hpick]; omega)
    have hres : ∀ t, t = sameB (Fr.sect k seg j (Fr.pick b)) b → Fr.piece seg j b = if t then (k, Fr.pick b) else (0, []) := fun t ht => by
      unfold Fr.piece
      rw [if_neg (by omega), if_neg (by rw [← HN.out, ← HK.out]; unfold W8 at h1 h4; omega), ← HK.out, ht]
      unfold sameB
      by_cases e : Fr.sect k seg j (Fr.pick b) = b
      · rw [if_neg (fun h => h e), if_pos (by simpa using e)]
      · rw [if_pos e, if_neg (by simpa using e)]
    have eN : (12 + (n : Int)).toNat - 12 = n := by omega
    have q0 : ¬ cap = 12 := by omega
    have hw4 : IntKind.i64.wrap (W8 k) = W8 k := by rw [IntKind.wrap_i64]; omega
    have q1 : (0 : Int) ≤ 12 + (n : Int) := by omega
    have q2 : (12 : Int) ≤ 12 + (n : Int) := by omega
    have q3 : 12 + (n : Int) ≤ (cap : Int) := by omega
    have q4 : 12 + n ≤ cap := by omega
    have q5 : 12 ≤ cap := by omega
    have eN2 : (12 + (n : Int)).toNat = 12 + n := by omega
    have hw3 : IntKind.i64.wrap (12 + (n : Int)) = 12 + (n : Int) := by rw [IntKind.wrap_i64]; omega
    have HV := Lib.hid (show Sl lo hi f8 w (.slice (some ⟨blk, off, none⟩) 256 cap) b from ⟨_, _, by rw [hl], hv⟩)
    have hsl : Sl lo hi f8 w (.slice (some ⟨blk, off + 12, none⟩) n (cap - 12)) (Fr.pick b) := by
      by_cases h0 : n = 0
      · rw [List.eq_nil_of_length_eq_zero (hpick.trans h0), h0]; exact Sl.empty _ _ _ _ _ _
      · have h2 := Sl.sub (n := n) hv 12 (by omega) (by omega) (cap - 12) (by omega)
        unfold Fr.pick
        rw [← HN.out]
        exact h2
    have kb : ∀ W, Below w.heap.size w W → (convert 23 9 (.slice (some ⟨blk, off, none⟩) 256 cap)).run Try.prog W = .ok (.string (strB b)) W := fun W hW => by
      have := conv_sl (hv.below hW hhi)
      rwa [hl] at this
    have c2' : ∀ W, Below w.heap.size w W → W.cell? ⟨blk, off + 2, none⟩ = some (.int .u8 (W8 k)) := fun W hW => (hW.cell (p := ⟨blk, off + 2, none⟩) (by exact Nat.lt_of_lt_of_le hb hhi)).trans c2
    have HS := Lib.hid hsl
    have HP := Lib.hid hpick
    have HR := Lib.hid hres
    have HL := Lib.hid hslen
    have HC2 := Lib.hid c2'
    have HKB := Lib.hid kb
    have HSD := Lib.hid (show ∀ m, Sl lo hi f8 (w.drewN m) (.slice (some ⟨blk, off + 12, none⟩) n (cap - 12)) (Fr.pick b) from fun m => hsl.below (drew_below w w.heap.size m) hhi)
    have HHI := Lib.hid (show ∀ m, hi ≤ (w.drewN m).heap.size from fun m => hhi)
    have HDB := Lib.hid (show ∀ m w2, Below (w.drewN m).heap.size (w.drewN m) w2 → Below w.heap.size w w2 from fun m w2 h => (drew_below w w.heap.size m).trans h)
    clear hsl hpick hres hslen c2'
    go_enter Try.func73, Try.ntmps73
    rw [hl]
    go_wp2
    go_quiet (fail)
    go_wp2
    have kb1 := kb (w.drewN (nq + 1)) (drew_below _ _ _)
    clear kb
    go_region_with (first
      | (go_at_call 35; with_reducible refine Calls.mono (rsector_any lo hi (w.drewN (nq + 1)) k seg j ?_ _ (Fr.pick b) (HSD.out _) ?_ (HHI.out _)) ?_; omega; (rw [HP.out]; omega); rintro e w2 ⟨u, rfl, hu2, hb2⟩; have s2 : Below w.heap.size w w2 ∧ w2.cell? ⟨blk, off + 2, none⟩ = some (.int .u8 (W8 k)) ∧ (convert 23 9 (.slice (some ⟨blk, off, none⟩) 256 cap)).run Try.prog w2 = .ok (.string (strB b)) w2 := (by have hB : Below w.heap.size w w2 := HDB.out _ _ hb2; exact ⟨hB, HC2.out w2 hB, HKB.out w2 hB⟩); obtain ⟨gu, cu, hue, _, _⟩ := own_shape hu2 (by decide); subst hue; have ku : (convert 23 9 (.slice (some ⟨gu, 0, none⟩) 256 cu)).run Try.prog w2 = .ok (.string (strB (Fr.sect k seg j (Fr.pick b)))) w2 := conv_own hu2 HL.out (by decide); have kb2 := s2.2.2; clear hu2 hb2))
    all_goals go_wp2
    all_goals first
      | (have h : (!(strB (Fr.sect k seg j (Fr.pick b))).toList == (strB b).toList) = true := by assumption
         have ht : sameB (Fr.sect k seg j (Fr.pick b)) b = false := by
           rw [strB_list, strB_list] at h
           unfold sameB
           simpa using h
         have hr := HR.out false ht.symm
         rw [if_neg (by decide)] at hr
         rw [hr]
         go_ret2
         exact ⟨_, rfl, Sl.nil _ _ _ _, s2.1⟩)
      | (have h : (!(strB (Fr.sect k seg j (Fr.pick b))).toList == (strB b).toList) = false := by assumption
         have ht : sameB (Fr.sect k seg j (Fr.pick b)) b = true := by
           rw [strB_list, strB_list] at h
           unfold sameB
           simpa using h
         have hr := HR.out true ht.symm
         rw [if_pos rfl] at hr
         have HR2 := Lib.hid hr
         have c22 := s2.2.1
         have HB2 := Lib.hid s2.1
         clear h ht hr s2 ku kb1 kb2
         go_quiet (fail)
         go_wp2
         go_ret2
         rw [HR2.out]
         exact ⟨_, rfl, (HS.out.below HB2.out hhi).same (fun _ _ _ => rfl), HB2.out.trans (drew_below _ _ _)⟩)
  · have hb : ((b.length : Int) != 256) = true := by simp; omega
    have hp : Fr.piece seg j b = (0, []) := by unfold Fr.piece; rw [if_pos (.inl hl)]
    rw [hp]
    clear hp
    go_enter Try.func73, Try.ntmps73
    go_wp2
    go_ret2
    exact ⟨_, rfl, Sl.nil _ _ _ _, Below.refl _ _⟩
end Go.Proofs.Ytckmeomhcikmoaa
