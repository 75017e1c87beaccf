/- frame.piece: what it returns. -/
import Derived.Test.YtckmeomhcikmoaaFrSector
import Derived.Test.YtckmeomhcikmoaaFrEq
namespace Go.Proofs.Ytckmeomhcikmoaa
open Go.RowKit
set_option maxRecDepth 100000
set_option maxHeartbeats 4000000

theorem drew_below (w : World) (B n : Nat) : Below B w (w.drewN n) := ⟨rfl, rfl, rfl, Nat.le_refl _, fun _ _ => rfl⟩
theorem or_bytes (x y : UInt8) : bits .or .i64 (W8 x) (W8 y * 256) = ((x.toNat + 256 * y.toNat : Nat) : Int) := by
  have hx := x.toNat_lt
  have hy := y.toNat_lt
  show IntKind.i64.wrap ((BitVec.ofInt 64 (W8 x) ||| BitVec.ofInt 64 (W8 y * 256)).toNat : Int) = _
  have e : W8 y * 256 = ((2 ^ 8 * y.toNat : Nat) : Int) := by unfold W8; omega
  rw [e, W8_def, BitVec.ofInt_natCast, BitVec.ofInt_natCast, BitVec.toNat_or, BitVec.toNat_ofNat, BitVec.toNat_ofNat, Nat.mod_eq_of_lt (by omega), Nat.mod_eq_of_lt (by omega), Nat.or_comm, ← Nat.two_pow_add_eq_or_of_lt (by omega), IntKind.wrap_i64]
  omega
theorem or_len {b : List UInt8} {x y : UInt8} {n : Nat} (hl : b.length = 256) (hx : x = b[10]) (hy : y = b[11]) (hn : n = Fr.lenOf b) : bits .or .i64 (W8 x) (W8 y * 256) = (n : Int) := by
  rw [or_bytes, hn, hx, hy]
  unfold Fr.lenOf
  rw [List.getD_eq_getElem?_getD, List.getD_eq_getElem?_getD, List.getElem?_eq_getElem (by omega), List.getElem?_eq_getElem (by omega)]
  rfl

theorem Sl.sub {α : Type} {lo hi : Nat} {f : α → Value} {w : World} {blk off cap n : Nat} {l : List α} (h : SlC lo hi f w (some ⟨blk, off, none⟩) cap l) (i : Nat) (hn : i + n ≤ l.length) (h0 : 0 < n) (c : Nat) (hc : n ≤ c) :
    Sl lo hi f w (.slice (some ⟨blk, off + i, none⟩) n c) ((l.drop i).take n) := by
  have hl : ((l.drop i).take n).length = n := by rw [List.length_take, List.length_drop]; omega
  obtain ⟨b', off', hb, h1, h2, h3⟩ := h.cells (by intro e; subst e; simp at hn; omega)
  cases hb
  refine ⟨some ⟨blk, off + i, none⟩, c, by rw [hl], ⟨by rw [hl]; have := h.len; omega, (fun e => by cases e), fun _ => ⟨blk, off + i, rfl, h1, h2, fun j hj => ?_⟩, by rw [hl]; exact hc⟩⟩
  have hj' : i + j < l.length := by rw [hl] at hj; omega
  have := h3 (i + j) hj'
  rw [← Nat.add_assoc] at this
  rw [this]
  simp
theorem Sl.empty {α : Type} (lo hi : Nat) (f : α → Value) (w : World) (ad : Addr) (c : Nat) : Sl lo hi f w (.slice (some ad) 0 c) ([] : List α) :=
  ⟨some ad, c, rfl, by simp, (fun e => by cases e), fun h => absurd rfl h, by simp⟩

theorem piece_any (lo hi : Nat) (w : World) (seg : BitVec 32) (j : Nat) (hj : j ≤ 1000000000) (v : Value) (b : List UInt8) (hv : Sl lo hi f8 w v b) (hhi : hi ≤ w.heap.size) :
    Calls Try.prog 69 #[.int .u32 (W32 seg), .int .i64 j, v] w fun e w' => ∃ u, e = .returned (.tuple #[.int .u8 (W8 (Fr.piece seg j b).1), u]) ∧ Sl lo hi f8 w' u (Fr.piece seg j b).2 ∧ Below w.heap.size w w' := by
  obtain ⟨ao, cap, rfl, hv⟩ := hv
  by_cases hl : b.length = 256
  · obtain ⟨blk, off, rfl, hlo, hb, hc⟩ := hv.cells (by intro e; subst e; simp at hl)
    have c2 := hc 2 (by omega)
    have c10 := hc 10 (by omega)
    have c11 := hc 11 (by omega)
    have hle := hv.le
    obtain ⟨k, hk⟩ : ∃ k, Hid (k = b[2]) := ⟨_, Lib.hid rfl⟩
    obtain ⟨x, hx⟩ : ∃ x, Hid (x = b[10]) := ⟨_, Lib.hid rfl⟩
    obtain ⟨y, hy⟩ : ∃ y, Hid (y = b[11]) := ⟨_, Lib.hid rfl⟩
    rw [← hk.out, f8] at c2
    rw [← hx.out, f8] at c10
    rw [← hy.out, f8] at c11
    clear hc
    have l0 := W8_lt k
    have l1 := W8_lt x
    have l2 := W8_lt y
    by_cases h65 : 65535 < j
    · have hi65 : (65535 : Int) < (j : Int) := by omega
      have hp : Fr.piece seg j b = (0, []) := by unfold Fr.piece; rw [if_pos (.inr h65)]
      rw [hp]
      clear hp
      go_enter Try.func69, Try.ntmps69
      rw [hl]
      go_wp2
      go_ret2
      exact ⟨_, rfl, Sl.nil _ _ _ _, Below.refl _ _⟩
    have hi65 : ¬ (65535 : Int) < (j : Int) := by omega
    obtain ⟨n, hn⟩ : ∃ n : Nat, n = Fr.lenOf b := ⟨_, rfl⟩
    have hor : bits .or .i64 (W8 x) (W8 y * 256) = (n : Int) := or_len hl hx.out hy.out hn
    have HN := Lib.hid hn
    have HK : Hid (k = Fr.kindAt b) := Lib.hid (by rw [hk.out]; unfold Fr.kindAt; rw [List.getD_eq_getElem?_getD, List.getElem?_eq_getElem (by omega)]; rfl)
    clear hn
    have pn : ∀ (_ : 240 < n ∨ W8 k < 1 ∨ 4 < W8 k), Fr.piece seg j b = (0, []) := fun hbad => by
      unfold Fr.piece
      rw [if_neg (by omega), if_pos]
      rw [← HN.out, ← HK.out]
      unfold W8 at hbad
      omega
    by_cases h240 : 240 < n
    · have g1 : (240 : Int) < (n : Int) := by omega
      rw [pn (.inl h240)]
      clear pn
      go_enter Try.func69, Try.ntmps69
      rw [hl]
      go_wp2
      go_quiet (fail)
      go_wp2
      go_ret2
      exact ⟨_, rfl, Sl.nil _ _ _ _, (Below.refl _ _).trans (drew_below _ _ _)⟩
    have g1 : ¬ (240 : Int) < (n : Int) := by omega
    by_cases h1 : W8 k < 1
    · rw [pn (.inr (.inl h1))]
      clear pn
      go_enter Try.func69, Try.ntmps69
      rw [hl]
      go_wp2
      go_quiet (fail)
      go_wp2
      go_ret2
      exact ⟨_, rfl, Sl.nil _ _ _ _, (Below.refl _ _).trans (drew_below _ _ _)⟩
    by_cases h4 : 4 < W8 k
    · rw [pn (.inr (.inr h4))]
      clear pn
      go_enter Try.func69, Try.ntmps69
      rw [hl]
      go_wp2
      go_quiet (fail)
      go_wp2
      go_ret2
      exact ⟨_, rfl, Sl.nil _ _ _ _, (Below.refl _ _).trans (drew_below _ _ _)⟩
    clear pn
    have hpick : (Fr.pick b).length = n := by unfold Fr.pick; rw [List.length_take, List.length_drop, ← HN.out]; omega
    have hslen := Fr.sect_len k seg j (p := Fr.pick b) (by rw [hpick]; omega)
    have hres : ∀ t, t = sameB (Fr.sect k seg j (Fr.pick b)) b → Fr.piece seg j b = if t then (k, Fr.pick b) else (0, []) := fun t ht => by
      unfold Fr.piece
      rw [if_neg (by omega), if_neg (by rw [← HN.out, ← HK.out]; unfold W8 at h1 h4; omega), ← HK.out, ht]
      unfold sameB
      by_cases e : Fr.sect k seg j (Fr.pick b) = b
      · rw [if_neg (fun h => h e), if_pos (by simpa using e)]
      · rw [if_pos e, if_neg (by simpa using e)]
    have eN : (12 + (n : Int)).toNat - 12 = n := by omega
    have HV := Lib.hid (show Sl lo hi f8 w (.slice (some ⟨blk, off, none⟩) 256 cap) b from ⟨_, _, by rw [hl], hv⟩)
    by_cases h0 : n = 0
    · have hsl : Sl lo hi f8 w (.slice (some ⟨blk, off, none⟩) 0 0) (Fr.pick b) := by rw [List.eq_nil_of_length_eq_zero (hpick.trans h0)]; exact Sl.empty _ _ _ _ _ _
      have h0' : (n : Int) = 0 := by omega
      have HS := Lib.hid hsl
      have HP := Lib.hid hpick
      have HR := Lib.hid hres
      clear hsl hpick hres
      rw [h0'] at hor
      go_enter Try.func69, Try.ntmps69
      rw [hl]
      go_wp2
      go_quiet (fail)
      go_wp2_with (first
        | (go_at_call 72; refine (equal_any w.heap.size w2.heap.size lo hi w2 _ _ (Fr.sect k seg j (Fr.pick b)) b (sl_own hu2 HL.out (by decide)) (HV.out.below hb2 hhi)).mono ?_; rintro e w3 ⟨rfl, rfl⟩; obtain ⟨t, ht⟩ : ∃ t, t = sameB (Fr.sect k seg j (Fr.pick b)) b := ⟨_, rfl⟩; rw [← ht]; have HT := Lib.hid ht; clear ht; cases t)
        | (go_at_call 34; refine (sector_any lo hi _ k seg j (by omega) _ (Fr.pick b) (HS.out.below (drew_below _ _ _) (Nat.le_refl _)) (by rw [HP.out]; omega) hhi).mono ?_; rintro e w2 ⟨u, rfl, hu2', hb2'⟩; have HL := Lib.hid hslen; clear hslen; have hb2 : Below w.heap.size w w2 := (drew_below w w.heap.size _).trans hb2'; have hu2 : w2.ownsRow w.heap.size 5 1 u 256 ((Fr.sect k seg j (Fr.pick b)).map f8) := hu2'; clear hb2' hu2'; have c2' := (hb2.cell (p := ⟨blk, off + 2, none⟩) (by exact Nat.lt_of_lt_of_le hb hhi)).trans c2))
      · have hr := HR.out false HT.out
        rw [if_neg (by decide)] at hr
        rw [hr]
        go_ret2
        exact ⟨_, rfl, Sl.nil _ _ _ _, hb2⟩
      · have hr := HR.out true HT.out
        rw [if_pos rfl] at hr
        rw [hr]
        go_ret2
        exact ⟨_, rfl, HS.out.below hb2 hhi, hb2⟩
    · have hsl : Sl lo hi f8 w (.slice (some ⟨blk, off + 12, none⟩) n n) (Fr.pick b) := by
        have h2 := Sl.sub (n := n) hv 12 (by omega) (by omega) n (Nat.le_refl _)
        unfold Fr.pick
        rw [← HN.out]
        exact h2
      have HS := Lib.hid hsl
      have HP := Lib.hid hpick
      have HR := Lib.hid hres
      clear hsl hpick hres
      go_enter Try.func69, Try.ntmps69
      rw [hl]
      go_wp2
      go_quiet (fail)
      go_wp2_with (first
        | (go_at_call 72; refine (equal_any w.heap.size w2.heap.size lo hi w2 _ _ (Fr.sect k seg j (Fr.pick b)) b (sl_own hu2 HL.out (by decide)) (HV.out.below hb2 hhi)).mono ?_; rintro e w3 ⟨rfl, rfl⟩; obtain ⟨t, ht⟩ : ∃ t, t = sameB (Fr.sect k seg j (Fr.pick b)) b := ⟨_, rfl⟩; rw [← ht]; have HT := Lib.hid ht; clear ht; cases t)
        | (go_at_call 34; refine (sector_any lo hi _ k seg j (by omega) _ (Fr.pick b) (HS.out.below (drew_below _ _ _) (Nat.le_refl _)) (by rw [HP.out]; omega) hhi).mono ?_; rintro e w2 ⟨u, rfl, hu2', hb2'⟩; have HL := Lib.hid hslen; clear hslen; have hb2 : Below w.heap.size w w2 := (drew_below w w.heap.size _).trans hb2'; have hu2 : w2.ownsRow w.heap.size 5 1 u 256 ((Fr.sect k seg j (Fr.pick b)).map f8) := hu2'; clear hb2' hu2'; have c2' := (hb2.cell (p := ⟨blk, off + 2, none⟩) (by exact Nat.lt_of_lt_of_le hb hhi)).trans c2))
      · have hr := HR.out false HT.out
        rw [if_neg (by decide)] at hr
        rw [hr]
        go_ret2
        exact ⟨_, rfl, Sl.nil _ _ _ _, hb2⟩
      · have hr := HR.out true HT.out
        rw [if_pos rfl] at hr
        rw [hr]
        go_ret2
        exact ⟨_, rfl, HS.out.below hb2 hhi, hb2⟩
  · have hb : ((b.length : Int) != 256) = true := by simp; omega
    have hp : Fr.piece seg j b = (0, []) := by unfold Fr.piece; rw [if_pos (.inl hl)]
    rw [hp]
    clear hp
    go_enter Try.func69, Try.ntmps69
    go_wp2
    go_ret2
    exact ⟨_, rfl, Sl.nil _ _ _ _, Below.refl _ _⟩
end Go.Proofs.Ytckmeomhcikmoaa
