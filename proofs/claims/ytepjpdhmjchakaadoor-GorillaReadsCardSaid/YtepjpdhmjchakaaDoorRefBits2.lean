/- The document's bits, read: Read, Left, Next, NextVarint, NextSigned. -/
import Derived.Test.YtepjpdhmjchakaaDoorXBytes
import Derived.Test.YtepjpdhmjchakaaDoorGzPlain
namespace Go.Proofs.YtepjpdhmjchakaaDoor
open Go.RowKit
set_option linter.unusedVariables false

/-- The document's reader at block B: the bits L, at_ of them read. -/
structure Xd (w : World) (B : Nat) (v : Value) (at_ : Nat) (L : List Bool) (lo hi : Nat) : Prop where
  cells : w.heap[B]? = some (.cells #[v, .int .i64 (at_ : Int)] 160 (0, 0))
  data : Sl lo hi fb w v L
  apart : B < lo ∨ hi ≤ B
  le : at_ ≤ L.length
  len : L.length < 1099511627776
section
variable {w w' : World} {B at_ lo hi : Nat} {v : Value} {L : List Bool}
theorem Xd.drewN (h : Xd w B v at_ L lo hi) (n : Nat) : Xd (w.drewN n) B v at_ L lo hi := ⟨h.cells, h.data.same (fun _ _ _ => rfl), h.apart, h.le, h.len⟩
theorem Xd.below {C : Nat} (h : Xd w B v at_ L lo hi) (hb : Below C w w') (hB : B < C) (hh : hi ≤ C) : Xd w' B v at_ L lo hi :=
  ⟨(hb.block B hB).trans h.cells, h.data.below hb hh, h.apart, h.le, h.len⟩
theorem Xd.at (h : Xd w B v at_ L lo hi) {a : Nat} (ha : a ≤ L.length) (x : Int) (hx : x = (a : Int)) : Xd (w.setCell ⟨B, 1, none⟩ (.int .i64 x)) B v a L lo hi := by
  subst hx
  refine ⟨by rw [heap_setCell_same _ _ _ _ _ _ h.cells]; rfl, h.data.same (fun k h1 h2 => heap_setCell_other _ _ _ _ ?_), h.apart, ha, h.len⟩
  intro e
  have := h.apart
  simp at e
  omega
end
theorem xval_lt {L : List Bool} {n : Nat} (h : L.length ≤ n) (hn : n ≤ 64) : Bt.val L < 18446744073709551616 :=
  Nat.lt_of_lt_of_le (Bt.val_lt L) (Nat.pow_le_pow_right (by decide) (by omega : L.length ≤ 64))
theorem xun_fits {x : Nat} (h : x < 18446744073709551616) : -9223372036854775808 ≤ un x ∧ un x ≤ 9223372036854775807 := by
  unfold un
  split <;> omega
theorem xheap_lt {w : World} {B : Nat} {o : Obj} (h : w.heap[B]? = some o) : B < w.heap.size := (Array.getElem?_eq_some_iff.1 h).1
theorem Gro.drewN (p : Nat) (r : Option Nat) (w : World) (n : Nat) : Gro p r w (w.drewN n) := ⟨rfl, rfl, rfl, Nat.le_refl _, fun _ _ _ _ => rfl⟩
theorem Gro.set (p j : Nat) (r : Option Nat) (w : World) (x : Value) : Gro p r w (w.setCell ⟨p, j, none⟩ x) := ⟨rfl, rfl, rfl, by simp, fun k _ h _ => heap_setCell_other _ _ _ _ h⟩
theorem unpack_snoc (l : List UInt8) (x : UInt8) : Bt.unpack (l ++ [x]) = Bt.unpack l ++ Bt.nb x.toNat 8 := by
  apply List.ext_getElem?
  intro j
  have h1 := Bt.unpack_len l
  by_cases hj : j < 8 * l.length
  · rw [Bt.unpack_get _ _ (by simp; omega), List.getElem?_append_left (by rw [h1]; exact hj), Bt.unpack_get _ _ hj]
    unfold Bt.mbit
    have : j / 8 < l.length := by omega
    simp [List.getD, List.getElem?_append_left this]
  · by_cases hj2 : j < 8 * l.length + 8
    · obtain ⟨t, rfl⟩ : ∃ t, j = 8 * l.length + t := ⟨j - 8 * l.length, by omega⟩
      rw [Bt.unpack_get _ _ (by simp; omega), List.getElem?_append_right (by omega), h1, Nat.add_sub_cancel_left]
      unfold Bt.mbit Bt.nb
      have e : (8 * l.length + t) / 8 = l.length := by omega
      have e2 : (8 * l.length + t) % 8 = t := by omega
      have e3 : t < 8 := by omega
      rw [e, e2]
      simp [List.getD, e3]
      rfl
    · rw [List.getElem?_eq_none (by rw [Bt.unpack_len]; simp; omega), List.getElem?_eq_none (by simp [h1, Bt.nb_len]; omega)]

set_option maxRecDepth 100000 in
theorem xread_any (lo hi : Nat) (w : World) (v : Value) (l : List UInt8) (hv : Sl lo hi f8 w v l) (hhi : hi ≤ w.heap.size) (hl : l.length ≤ 1000000) :
    Calls Tryd.prog 70 #[v] w fun e w' => ∃ v', e = .returned (.pointer (some ⟨w.heap.size, 0, none⟩)) ∧ Xd w' w.heap.size v' 0 (Bt.unpack l) (w.heap.size + 1) w'.heap.size ∧ Below w.heap.size w w' := by
  obtain ⟨ao, cap, rfl, hs⟩ := hv
  have HS := Lib.hid hs
  clear hs
  go_enter Tryd.func70, Tryd.ntmps70
  go_wp2
  go_loopw [4] (fun i wr => ∃ (k : Nat) (r : Option Nat), k ≤ l.length ∧ i = .int .i64 k ∧ Xr wr w.heap.size r (Bt.unpack (l.take k)) ∧ (∀ q, r = some q → w.heap.size + 1 ≤ q) ∧ Below w.heap.size w wr) (fun i _ => l.length - (intOf i).toNat)
  case atStart => exact ⟨0, none, Nat.zero_le _, rfl, by simpa [Bt.unpack] using new_xr w, (fun q hq => by cases hq), (Below.refl _ _).alloc (Nat.le_refl _) _⟩
  case round =>
    obtain ⟨k, r, hk, rfl, hx, hr, hbel⟩ := hrel
    have HX := Lib.hid hx
    have HR := Lib.hid hr
    have HB := Lib.hid hbel
    have hsz := hbel.size
    have hlt0 : w.heap.size < wr.heap.size := by obtain ⟨⟨_, hB, _⟩, _⟩ := hx; exact xheap_lt hB
    have hul := Bt.unpack_len (l.take k)
    clear hx hr hbel
    by_cases hlt : k < l.length
    · obtain ⟨b, off, rfl, _, hb, hcell⟩ := (HS.out.below HB.out hhi).cells (by intro e; subst e; simp at hlt)
      have c0 := hcell k hlt
      have ht := unpack_snoc (l.take k) l[k]
      rw [← List.take_succ_eq_append_getElem hlt] at ht
      obtain ⟨y, hy, hyl⟩ : ∃ y : Nat, l[k].toNat = y ∧ y < 256 := ⟨_, rfl, l[k].toNat_lt⟩
      unfold f8 W8 at c0
      rw [hy] at c0 ht
      have HT := Lib.hid ht
      have i1 : (0 : Int) ≤ (k : Int) ∧ (k : Int) < (l.length : Int) := by omega
      have hlen : (Bt.unpack (l.take k)).length + 8 < 1099511627776 := by rw [hul, List.length_take]; omega
      clear hcell hul ht hy
      generalize Bt.unpack (l.take k) = L at *
      go_wp2_with (go_at_call 84; refine (xbits_any wr w.heap.size r L y 8 HX.out hlen (by omega) (by omega)).mono ?_; rintro e w1 ⟨rfl, r1, hx1, hg1, hn1⟩)
      go_roundw
      case rel =>
        refine ⟨k + 1, r1, by omega, by push_cast; rfl, by rw [HT.out]; exact hx1, fun q hq => ?_, HB.out.trans (hg1.below hsz (Nat.le_refl _) (fun q hq => by have := HR.out q hq; omega))⟩
        rcases hn1 q hq with h1 | h1
        · exact HR.out q h1
        · omega
      case measure => simp [intOf]; omega
    · obtain rfl : k = l.length := by omega
      rw [List.take_length] at HX hul
      have hx := HX.out
      obtain ⟨⟨v', hB, hown, hvr⟩, hne⟩ := hx
      have hsl : Sl (w.heap.size + 1) wr.heap.size fb wr v' (Bt.unpack l) := by
        refine Sl.owns (base := w.heap.size + 1) (e := 5) ?_ (by rw [hul]; omega)
        obtain ⟨h1, h2 | ⟨g, cp, cur, h3, h4, h5⟩⟩ := hown
        · exact ⟨h1, .inl h2⟩
        · refine ⟨h1, .inr ⟨g, cp, cur, h3, HR.out g ?_, h5⟩⟩
          rw [← hvr, h3]
          rfl
      have HXD := Lib.hid (show Xd wr w.heap.size v' 0 (Bt.unpack l) (w.heap.size + 1) wr.heap.size from ⟨hB, hsl, .inl (Nat.lt_succ_self _), Nat.zero_le _, by rw [hul]; omega⟩)
      clear hB hown hvr hsl HX
      go_wp2
      go_ret
      exact ⟨v', rfl, HXD.out, HB.out⟩

theorem xleft_any (lo hi : Nat) (w : World) (B at_ : Nat) (v : Value) (L : List Bool) (h : Xd w B v at_ L lo hi) :
    Calls Tryd.prog 98 #[.pointer (some ⟨B, 0, none⟩)] w fun e w' => e = .returned (.int .i64 ((L.length : Int) - (at_ : Int))) ∧ ∃ n, w' = w.drewN n := by
  obtain ⟨hB, ⟨ao, cap, rfl, hs⟩, hap, hle, hlen⟩ := h
  obtain ⟨c0, c1, _⟩ := two_cells hB
  have hl := hs.len
  clear hB hs hap
  go_enter Tryd.func98, Tryd.ntmps98
  go_wp2
  go_quiet (fail)
  go_wp2
  go_ret
  exact ⟨rfl, _, rfl⟩

set_option maxRecDepth 100000 in
theorem xnext_ok (lo hi : Nat) (w : World) (B at_ n : Nat) (v : Value) (L : List Bool) (h : Xd w B v at_ L lo hi) (hn : n ≤ 64) (hle : at_ + n ≤ L.length) :
    Calls Tryd.prog 72 #[.pointer (some ⟨B, 0, none⟩), .int .i64 (n : Int)] w fun e w' => e = .returned (.tuple #[.int .u64 ((Bt.val ((L.drop at_).take n) : Nat) : Int), .int .u16 0]) ∧ Xd w' B v (at_ + n) L lo hi ∧ Gro B none w w' := by
  have HH := Lib.hid h
  have hlen := h.len
  clear h
  go_enter Tryd.func72, Tryd.ntmps72
  go_wp2_with (go_at_call 98; refine (xleft_any lo hi _ B at_ v L HH.out).mono ?_; rintro e w1 ⟨rfl, m, rfl⟩)
  go_loopw [6, 7] (fun x i wr => ∃ (k V m : Nat), k ≤ n ∧ i = .int .i64 k ∧ x = .int .u64 V ∧ V = Bt.val ((L.drop at_).take k) ∧ wr = w.drewN m) (fun _ i _ => n - (intOf i).toNat)
  case atStart => exact ⟨0, 0, m, by omega, rfl, rfl, by simp [Bt.val], rfl⟩
  case round =>
    obtain ⟨k, V, m2, hk, rfl, rfl, hV, rfl⟩ := hrel
    have HV := Lib.hid hV
    obtain ⟨hB, ⟨ao, cap, rfl, hs⟩, hap, hle3, _⟩ := HH.out
    obtain ⟨c0, c1, cz⟩ := two_cells hB
    clear hV
    by_cases hlt : k < n
    · obtain ⟨b, off, rfl, hlo, hbh, hcell⟩ := hs.cells (by intro e; subst e; simp at hle; omega)
      have hc := hcell (at_ + k) (by omega)
      rw [fb_nat] at hc
      have hVb : V < 9223372036854775808 := by
        have h1 := Bt.val_lt ((L.drop at_).take k)
        have h2 : ((L.drop at_).take k).length ≤ k := List.length_take_le _ _
        have h3 : 2 ^ ((L.drop at_).take k).length ≤ 2 ^ 63 := Nat.pow_le_pow_right (by omega) (by omega)
        rw [HV.out]; omega
      have hbit : (L.drop at_).take (k + 1) = (L.drop at_).take k ++ [L[at_ + k]] := by
        rw [List.take_succ_eq_append_getElem (by rw [List.length_drop]; omega)]
        simp
      have HBIT := Lib.hid hbit
      have hbt : L[at_ + k].toNat < 2 := by cases L[at_ + k] <;> decide
      have i1 : (0 : Int) ≤ (at_ : Int) + (k : Int) ∧ (at_ : Int) + (k : Int) < (L.length : Int) := by omega
      clear hcell hs hbit hB
      generalize L[at_ + k] = bb at *
      generalize hbn : bb.toNat = bn at *
      have HBN := Lib.hid hbn
      clear hbn
      go_wp2
      go_quiet (fail)
      go_wp2
      go_roundw
      case rel =>
        refine ⟨k + 1, 2 * V + bn, _, by omega, by go_num, ?_, ?_, rfl⟩
        · go_num
        · rw [HBIT.out, Bt.val_snoc, ← HV.out, HBN.out]
      case measure => simp [intOf]; omega
    · obtain rfl : k = n := by omega
      obtain rfl := HV.out
      have hset := (HH.out.drewN m2).at hle _ (show ((at_ : Int) + (k : Int)) = ((at_ + k : Nat) : Int) by push_cast; rfl)
      have HS := Lib.hid hset
      clear HV hB hs hset
      go_wp2
      go_ret2
      exact ⟨rfl, HS.out, (Gro.drewN B none w m2).trans (Gro.set B 1 none _ _) (Anew.refl _ _)⟩
theorem xnext_short (lo hi : Nat) (w : World) (B at_ n : Nat) (v : Value) (L : List Bool) (h : Xd w B v at_ L lo hi) (hn : n ≤ 64) (hle : L.length < at_ + n) :
    Calls Tryd.prog 72 #[.pointer (some ⟨B, 0, none⟩), .int .i64 (n : Int)] w fun e w' => e = .returned (.tuple #[.int .u64 0, .int .u16 20]) ∧ ∃ m, w' = w.drewN m := by
  have HH := Lib.hid h
  have hlen := h.len
  have hle0 := h.le
  clear h
  go_enter Tryd.func72, Tryd.ntmps72
  go_wp2_with (go_at_call 98; refine (xleft_any lo hi _ B at_ v L HH.out).mono ?_; rintro e w1 ⟨rfl, m, rfl⟩)
  go_ret2
  exact ⟨rfl, m, rfl⟩
/-- Next, of good and bad. -/
theorem xnext_c {lo hi : Nat} {w : World} {B at_ : Nat} {v : Value} {L : List Bool} (h : Xd w B v at_ L lo hi) (n : Nat) (hn : n ≤ 64) (z : Int) (hz : z = (n : Int)) :
    Calls Tryd.prog 72 #[.pointer (some ⟨B, 0, none⟩), .int .i64 z] w fun e w' => ∃ (x a er : Nat), x < 18446744073709551616 ∧ e = .returned (.tuple #[.int .u64 (x : Int), .int .u16 (er : Int)]) ∧ Xd w' B v a L lo hi ∧ Gro B none w w' ∧
      ((er = 0 ∧ Gz.rdk L at_ n = some (x, a)) ∨ (er = 20 ∧ Gz.rdk L at_ n = none ∧ x = 0 ∧ a = at_)) := by
  subst hz
  by_cases hle : at_ + n ≤ L.length
  · refine (xnext_ok lo hi w B at_ n v L h hn hle).mono ?_
    rintro e w' ⟨rfl, h1, h2⟩
    exact ⟨_, at_ + n, 0, xval_lt (List.length_take_le _ _) hn, rfl, h1, h2, .inl ⟨rfl, by unfold Gz.rdk; rw [if_neg (by omega)]⟩⟩
  · refine (xnext_short lo hi w B at_ n v L h hn (by omega)).mono ?_
    rintro e w' ⟨rfl, m, rfl⟩
    exact ⟨0, at_, 20, by decide, rfl, h.drewN m, Gro.drewN _ _ _ _, .inr ⟨rfl, by unfold Gz.rdk; rw [if_pos (by omega)], rfl, rfl⟩⟩
end Go.Proofs.YtepjpdhmjchakaaDoor
