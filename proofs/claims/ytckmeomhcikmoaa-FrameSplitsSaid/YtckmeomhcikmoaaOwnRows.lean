/- The book's lists of rows are their owner's: marks, room behind, and a look. -/
import Derived.Test.YtckmeomhcikmoaaOwnBytes
namespace Go.Proofs.Ytckmeomhcikmoaa
open Go.RowKit

theorem und57 : Try.prog.underlying 57 = some (.slice 30) := by kernel_rfl
theorem info30 : (Try.prog.info? 30).map (fun i => (i.zero, i.size, i.bytes)) = some (some (.slice none 0 0), 1, 24) := by kernel_rfl

theorem pB_val (i k : Nat) : pB i k = .int .u8 (((i : Int) * 97 + (k : Int) * 13) % 256) := by unfold pB; rw [IntKind.wrap_u8']
theorem tB_val (i k : Nat) : tB i k = .int .u8 (((-1 - (i : Int)) * 97 + (k : Int) * 13) % 256) := by unfold tB; rw [IntKind.wrap_u8']
/-- A slice of one byte at a block; the marks. -/
def sl1 (a : Nat) : Value := .slice (some ⟨a, 0, none⟩) 1 1
def pR (A : Nat → Nat → Nat) (i k : Nat) : Value := sl1 (A i k)
def Up (A : Nat → Nat → Nat) (i k a : Nat) : Nat → Nat → Nat := fun j m => if j = i ∧ m = k then a else A j m
theorem Up_same (A : Nat → Nat → Nat) (i k a : Nat) : Up A i k a i k = a := if_pos ⟨rfl, rfl⟩
theorem Up_other (A : Nat → Nat → Nat) (i k a j m : Nat) (h : ¬ (j = i ∧ m = k)) : Up A i k a j m = A j m := if_neg h
/-- What has been marked: rows ahead of i, of the row i k. -/
def Dm (ln : Nat → Nat) (i k j m : Nat) : Prop := (j < i ∧ m < ln j) ∨ (j = i ∧ m < k)
/-- The marks' bytes lie in blocks of their own, that are new. -/
def Gd (w0 wr : World) (A : Nat → Nat → Nat) (M : Nat → Nat → Value) (D : Nat → Nat → Prop) : Prop :=
  ∀ j m, D j m → wr.heap[A j m]? = some (.cells #[M j m] 5 (0, 0)) ∧ w0.heap.size ≤ A j m
section
variable {w0 wr w' : World} {A : Nat → Nat → Nat} {M : Nat → Nat → Value} {D D' : Nat → Nat → Prop}
theorem Gd.imp (h : Gd w0 wr A M D) (hd : ∀ j m, D' j m → D j m) : Gd w0 wr A M D' := fun j m hm => h j m (hd j m hm)
theorem Gd.grown (h : Gd w0 wr A M D) {r : Option Nat} (g : wr.grownBy w' r) (hr : ∀ j m, D j m → r ≠ some (A j m)) : Gd w0 w' A M D := fun j m hm => by
  obtain ⟨h1, h2⟩ := h j m hm
  refine ⟨(g.block _ ?_ (fun e => hr j m hm e.symm)).trans h1, h2⟩
  rcases Nat.lt_or_ge (A j m) wr.heap.size with h3 | h3
  · exact h3
  · rw [Array.getElem?_eq_none h3] at h1; cases h1
theorem Gd.ne (h : Gd w0 wr A M D) {base s n : Nat} {e : TypeId} {v : Value} {xs : List Value} (hv : wr.ownsRow base e s v n xs) (he : e ≠ 5) : ∀ j m, D j m → v.ownBlock ≠ some (A j m) := fun j m hm e1 => by
  obtain ⟨h1, _⟩ := h j m hm
  obtain ⟨_, ⟨rfl, _⟩ | ⟨g, c, cur, rfl, _, hh, _⟩⟩ := hv
  · cases e1
  · have e2 : g = A j m := by injection e1
    rw [e2, h1] at hh
    injection hh with hh
    injection hh with _ hh
    exact he hh.symm
theorem Gd.up (h : Gd w0 wr A M D) {i k a : Nat} (ha : wr.heap[a]? = some (.cells #[M i k] 5 (0, 0))) (hw : w0.heap.size ≤ a) (hd : ∀ j m, D' j m → (j = i ∧ m = k) ∨ D j m) : Gd w0 wr (Up A i k a) M D' := fun j m hm => by
  by_cases e : j = i ∧ m = k
  · obtain ⟨rfl, rfl⟩ := e
    rw [Up_same]
    exact ⟨ha, hw⟩
  · rw [Up_other _ _ _ _ _ _ e]
    rcases hd j m hm with h1 | h1
    · exact absurd h1 e
    · exact h j m h1
theorem Gd.cell (h : Gd w0 wr A M D) {j m : Nat} (hm : D j m) : wr.cell? ⟨A j m, 0, none⟩ = some (M j m) := (cell_of_row _ _ _ _ _ _ (h j m hm).1).trans rfl
end
theorem marks_congr {p p' : Nat → Nat → Value} {i n : Nat} (h : ∀ m, m < n → p i m = p' i m) : marks p i n = marks p' i n := by
  unfold marks
  apply List.map_congr_left
  intro m hm
  exact h m (List.mem_range.1 hm)
theorem upTo_congr {p p' : Nat → Nat → Value} {ln : Nat → Nat} {i k j : Nat} {xs : List Value} (hp : ∀ j m, Dm ln i k j m → p j m = p' j m) (h : upTo p ln i k j xs) : upTo p' ln i k j xs :=
  ⟨fun hj => (h.1 hj).trans (marks_congr (fun m hm => hp j m (.inl ⟨hj, hm⟩))), fun hj => (h.2 hj).trans (marks_congr (fun m hm => hp i m (.inr ⟨rfl, hm⟩)))⟩
theorem Lg.congr {E e : TypeId} {w0 w : World} {base : Nat} {vs ys : List Value} {ln : Nat → Nat} {p t t' : Nat → Nat → Value} {c : Nat} {lv : Value} {i : Nat} (h : Lg E e w0 w base vs ln p t c lv i ys) (ht : ∀ j m, j < i → t j m = t' j m) : Lg E e w0 w base vs ln p t' c lv i ys :=
  ⟨h.row, fun j y v hy hv => by
    have hj : j < i := by rw [← h.len]; exact (List.getElem?_eq_some_iff.1 hy).1
    obtain ⟨k1, k2⟩ := h.rows j y v hy hv
    rw [marks_congr (fun m _ => ht j m hj)] at k1
    exact ⟨k1, k2⟩⟩
/-- A block is laid: nothing has turned. -/
theorem Lg.alloc {E e : TypeId} {w0 w : World} {base : Nat} {vs ys : List Value} {ln : Nat → Nat} {p t : Nat → Nat → Value} {c : Nat} {lv : Value} {i : Nat} (h : Lg E e w0 w base vs ln p t c lv i ys) (o : Obj) : Lg E e w0 (w.alloc o) base vs ln p t c lv i ys :=
  h.turn (World.grownBy_alloc w o none) (fun k hk => by cases hk) (fun y _ k hk => by cases hk)
theorem Bk.alloc {E e : TypeId} {w0 w : World} {base : Nat} {vb : Value} {vs : List Value} {ln : Nat → Nat} {F : Nat → List Value → Prop} (hE : E ≠ e) (h : Bk E e w0 w base vb vs ln F) (o : Obj) : Bk E e w0 (w.alloc o) base vb vs ln F :=
  h.fresh hE (World.grownBy_alloc w o none) (fun k hk => by cases hk)
theorem news_alloc2 (w : World) (o : Obj) (u : Value) (t : TypeId) : ∀ j u', [u][j]? = some u' → ((w.alloc o).alloc (.cells #[u] t)).cell? ((⟨w.heap.size + 1, 0, none⟩ : Addr).add j) = some u' := by
  have h := news_alloc (w.alloc o) [u] t
  simpa using h

set_option maxHeartbeats 4000000 in
set_option maxRecDepth 100000 in
theorem ownRows_any (w : World) (base : Nat) (vb : Value) (vs : List Value) (ln : Nat → Nat) (h : Bk 30 23 w w base vb vs ln (fun _ _ => True)) (hap : Apt vs) (hln : ∀ j, ln j ≤ 1099511627776) (hN : vs.length ≤ 1000000000) (hb : base ≤ w.heap.size) :
    Calls Try.prog 55 #[vb] w fun e w' => e = .returned (.bool true) ∧ Oth vs w w' := by
  obtain ⟨i0, hi0, hz0, hz1, hz2⟩ := info_parts info23b
  obtain ⟨i1, hi1, hy0, hy1, hy2⟩ := info_parts info30
  obtain ⟨a0, cap0, rfl⟩ := own_slice h.row
  have H0 := Lib.hid h
  have HAP := Lib.hid hap
  clear h hap
  go_enter Try.func55, Try.ntmps55
  go_wp2
  go_loopw [3] (fun i wr => ∃ (i' : Nat) (A : Nat → Nat → Nat), i' ≤ vs.length ∧ i = .int .i64 i' ∧ Bk 30 23 w wr base (.slice a0 vs.length cap0) vs ln (upTo (pR A) ln i' 0) ∧ Gd w wr A pB (Dm ln i' 0)) (fun i _ => vs.length - (intOf i).toNat)
  case atStart => exact ⟨0, fun _ _ => 0, Nat.zero_le _, rfl, H0.out.weak (fun j xs _ _ => upTo_zero _ _ _ _), fun j m hm => by rcases hm with hm | hm <;> omega⟩
  case round =>
    obtain ⟨i, A0, hi, rfl, hbk, hgd⟩ := hrel
    have HBK := Lib.hid hbk
    have HGD := Lib.hid hgd
    clear hbk hgd
    by_cases hlt : i < vs.length
    · obtain ⟨v, hv⟩ : ∃ v, vs[i]? = some v := ⟨_, List.getElem?_eq_getElem hlt⟩
      have HV := Lib.hid hv
      clear hv
      have hlni := hln i
      have j1 : (0 : Int) ≤ (i : Int) ∧ (i : Int) < (vs.length : Int) := by omega
      go_wp2_with fail
      go_loopw [4] (fun k wr => ∃ (k' : Nat) (A : Nat → Nat → Nat), k' ≤ ln i ∧ k = .int .i64 k' ∧ Bk 30 23 w wr base (.slice a0 vs.length cap0) vs ln (upTo (pR A) ln i k') ∧ Gd w wr A pB (Dm ln i k')) (fun k _ => ln i - (intOf k).toNat)
      case atStart => exact ⟨0, A0, Nat.zero_le _, rfl, HBK.out, HGD.out⟩
      case round =>
        obtain ⟨k, A, hk, rfl, hbk, hgd⟩ := hrel
        obtain ⟨g0, c0, hv0, _, _⟩ := own_shape hbk.row (by omega)
        injection hv0 with ha0 _ hc0
        subst ha0 hc0
        have hc1 : wr.cell? ⟨g0, i, none⟩ = some v := (hbk.row.cellAt i (by omega)).trans HV.out
        obtain ⟨xs, hxs, hup⟩ := hbk.rows i v HV.out
        by_cases hlk : k < ln i
        · obtain ⟨g, cap, rfl, _, hgl⟩ := own_shape hxs (by omega)
          obtain ⟨u0, hc2⟩ : ∃ u0, wr.cell? ⟨g, k, none⟩ = some u0 := ⟨_, (hxs.cellAt k (by omega)).trans (List.getElem?_eq_getElem (by have := hxs.1; omega))⟩
          have hf2 := hxs.frozenAt k
          have j2 : (0 : Int) ≤ (k : Int) ∧ (k : Int) < ((ln i : Nat) : Int) := by omega
          have hsz := hbk.oth.size
          have HB2 := Lib.hid hbk
          have HG2 := Lib.hid (hgd.grown (hxs.stored k (sl1 wr.heap.size)).2 (hgd.ne hxs (by decide)))
          clear hbk hxs hup hgd
          go_wp2
          go_roundw
          case rel =>
            rw [← pB_val]
            refine ⟨k + 1, Up A i k wr.heap.size, by omega, by push_cast; rfl, ?_, ?_⟩
            · have h1 := HB2.out.weak (F' := upTo (pR (Up A i k wr.heap.size)) ln i k) (fun j xs _ hx => upTo_congr (fun j m hm => by unfold pR; rw [Up_other]; rintro ⟨rfl, rfl⟩; rcases hm with hm | hm <;> omega) hx)
              refine (h1.store (by decide) HAP.out HV.out (u := sl1 wr.heap.size) (fun xs hx hl => ?_) (fun j xs hj hx => upTo_other hx hj)).alloc (by decide) _
              have := upTo_set hx hl hlk
              unfold pR at this
              rw [Up_same] at this
              exact this
            · refine (HG2.out.grown (World.grownBy_alloc _ (.cells #[pB i k] 5) none) (fun _ _ _ e => by cases e)).up ?_ hsz (fun j m hm => by
                rcases hm with hm | hm
                · exact .inr (.inl hm)
                · by_cases e : m = k
                  · exact .inl ⟨hm.1, e⟩
                  · exact .inr (.inr ⟨hm.1, by omega⟩))
              have h2 := heap_alloc_new (wr.setCell ⟨g, k, none⟩ (sl1 wr.heap.size)) (.cells #[pB i k] 5)
              rw [World.size_setCell] at h2
              exact h2
          case measure => simp [intOf]; omega
        · obtain rfl : k = ln i := by omega
          obtain ⟨ao, cap, rfl⟩ := own_slice hxs
          have HBK2 := Lib.hid hbk
          have HGD2 := Lib.hid hgd
          clear hbk hxs hup hgd
          go_wp2
          go_roundw
          case rel => exact ⟨i + 1, A, by omega, by push_cast; rfl, HBK2.out.weak (fun j xs hl hx => upTo_next hx hl), HGD2.out.imp (fun j m hm => by
            rcases hm with hm | hm
            · by_cases e : j = i
              · subst e; exact .inr ⟨rfl, hm.2⟩
              · exact .inl ⟨by omega, hm.2⟩
            · omega)⟩
          case measure => simp [intOf]; omega
    · obtain rfl : i = vs.length := by omega
      have hbk2 : Bk 30 23 w wr base (.slice a0 vs.length cap0) vs ln (fun j xs => j < vs.length → xs = marks (pR A0) j (ln j)) := HBK.out.weak (fun j xs _ hx => hx.1)
      have hbk3 : Bk 30 23 w wr base (.slice a0 vs.length cap0) vs ln (fun j xs => xs = marks (pR A0) j (ln j)) :=
        ⟨hbk2.row, fun j v hv => by obtain ⟨xs, k1, k2⟩ := hbk2.rows j v hv; exact ⟨xs, k1, k2 (List.getElem?_eq_some_iff.1 hv).1⟩, hbk2.oth, hbk2.lb, hbk2.lv⟩
      have HB3 := Lib.hid hbk3
      clear hbk2 hbk3 HBK
      go_wp2_with fail
      go_loopw [5, 6] (fun lv i wr => ∃ (i' : Nat) (ys : List Value) (T : Nat → Nat → Nat), i' ≤ vs.length ∧ i = .int .i64 i' ∧ Bk 30 23 w wr base (.slice a0 vs.length cap0) vs ln (fun j xs => xs = marks (pR A0) j (ln j)) ∧ Lg 30 23 w wr base vs ln (pR A0) (pR T) 8 lv i' ys ∧ (∀ y ∈ ys, ∀ k, y.ownBlock = some k → k < wr.heap.size) ∧ Gd w wr A0 pB (Dm ln vs.length 0) ∧ Gd w wr T tB (Dm (fun _ => 8) i' 0)) (fun _ i _ => vs.length - (intOf i).toNat)
      case atStart => exact ⟨0, [], fun _ _ => 0, Nat.zero_le _, rfl, HB3.out, Lg.nil _ _, by simp, HGD.out, fun j m hm => by rcases hm with hm | hm <;> omega⟩
      case round =>
        obtain ⟨i, ys, T0, hi, rfl, hbk, hlg, hys, hga, hgt⟩ := hrel
        clear HB3 HGD
        have HBK := Lib.hid hbk
        have HLG := Lib.hid hlg
        have HYS := Lib.hid hys
        have HGA := Lib.hid hga
        have HGT := Lib.hid hgt
        obtain ⟨lo, lc, hlv⟩ := own_slice hlg.row
        subst hlv
        clear hbk hlg hys hga hgt
        by_cases hlt : i < vs.length
        · obtain ⟨v, hv⟩ : ∃ v, vs[i]? = some v := ⟨_, List.getElem?_eq_getElem hlt⟩
          obtain ⟨g0, c0, hv0, _, _⟩ := own_shape HBK.out.row (by omega)
          injection hv0 with ha0 _ hc0
          subst ha0 hc0
          have hc1 : wr.cell? ⟨g0, i, none⟩ = some v := (HBK.out.row.cellAt i (by omega)).trans hv
          obtain ⟨xs, hxs, hup⟩ := HBK.out.rows i v hv
          subst hup
          have HXS := Lib.hid hxs
          have HV := Lib.hid hv
          have hlni := hln i
          have j1 : (0 : Int) ≤ (i : Int) ∧ (i : Int) < (vs.length : Int) := by omega
          obtain ⟨Wi, hWi⟩ : ∃ Wi, wr.heap.size = Wi := ⟨_, rfl⟩
          have hWi0 : w.heap.size ≤ Wi := by rw [← hWi]; exact HBK.out.oth.size
          have HWi := Lib.hid hWi
          clear hxs hv hWi
          go_wp2_with fail
          go_loopw [7, 8] (fun x m w' => ∃ (m' : Nat) (T : Nat → Nat → Nat), m' ≤ 8 ∧ m = .int .i64 m' ∧ Bk 30 23 w w' base (.slice (some ⟨g0, 0, none⟩) vs.length cap0) vs ln (fun j xs => xs = marks (pR A0) j (ln j)) ∧ Lg 30 23 w w' base vs ln (pR A0) (pR T) 8 (.slice lo i lc) i ys ∧
            w'.ownsRow base 23 1 x (ln i + m') (marks (pR A0) i (ln i) ++ marks (pR T) i m') ∧ (x.ownBlock = v.ownBlock ∨ ∀ k, x.ownBlock = some k → Wi ≤ k) ∧ Wi ≤ w'.heap.size ∧ Gd w w' A0 pB (Dm ln vs.length 0) ∧ Gd w w' T tB (Dm (fun _ => 8) i m')) (fun _ m _ => 8 - (intOf m).toNat)
          case atStart => exact ⟨0, T0, by omega, rfl, HBK.out, HLG.out, by simpa [marks] using HXS.out, .inl rfl, Nat.le_of_eq HWi.out.symm, HGA.out, HGT.out⟩
          case round =>
            obtain ⟨m, T, hm, rfl, hbk, hlg, hx, hxb, hws, hga, hgt⟩ := hrel
            have hys : ∀ y ∈ ys, ∀ k, y.ownBlock = some k → k < Wi := fun y hy k hk => by have := HYS.out y hy k hk; rw [HWi.out] at this; exact this
            have HB := Lib.hid hbk
            have HL := Lib.hid hlg
            have HX := Lib.hid hx
            have HXB := Lib.hid hxb
            have HY := Lib.hid hys
            have HA := Lib.hid hga
            have HT := Lib.hid hgt
            have hsz := hbk.oth.size
            by_cases hm8 : m < 8
            · clear hbk hlg hx hxb hys hga hgt
              go_wp2_with (at_builtin; refine wpList_append_stay _ rfl (.tmp 55) (.tmp 64) 30 rfl base 23 i0 (.slice none 0 0) 24 und30 hi0 hz0 hz1 hz2 rfl _ (ln i + m) _ rfl ((HX.out.alloc (.cells #[.int .u8 (((-1 - (i : Int)) * 97 + (m : Int) * 13) % 256)] 5)).alloc _) ⟨wr.heap.size + 1, 0, none⟩ 1 (.slice (some ⟨wr.heap.size, 0, none⟩) 1 1) rfl (news_alloc2 wr _ (.slice (some ⟨wr.heap.size, 0, none⟩) 1 1) 23) rfl (by unfold maxLen; omega) (by omega) (by simp; omega) ?_; intro g cap w1 hown1 hst1 hgl; have HO1 := Lib.hid hown1; have HS1 := Lib.hid hst1; clear hown1 hst1 hgl)
              go_roundw
              case rel =>
                have hst := HS1.out
                have hT : ∀ j m', j < i → pR T j m' = pR (Up T i m wr.heap.size) j m' := fun j m' hj => by unfold pR; rw [Up_other]; omega
                have hmk : marks (pR T) i m = marks (pR (Up T i m wr.heap.size)) i m := marks_congr (fun m' hm' => by unfold pR; rw [Up_other]; omega)
                have hlg2 := (HL.out.congr hT).alloc (.cells #[.int .u8 (((-1 - (i : Int)) * 97 + (m : Int) * 13) % 256)] 5)
                have hx2 := HX.out.alloc (.cells #[.int .u8 (((-1 - (i : Int)) * 97 + (m : Int) * 13) % 256)] 5)
                rw [hmk] at hx2
                have ho1 := HO1.out
                rw [hmk] at ho1
                obtain ⟨q1, q2, q3, q4⟩ := stay_step (by decide) HAP.out (HB.out.alloc (by decide) (.cells #[.int .u8 (((-1 - (i : Int)) * 97 + (m : Int) * 13) % 256)] 5)) hlg2 HV.out hx2 HXB.out HY.out (by simp; omega) hWi0 ho1 hst
                have hgr := grown_alloc' (grown_alloc' hst.grown)
                have hgr1 := grown_alloc' hst.grown
                refine ⟨m + 1, Up T i m wr.heap.size, by omega, by push_cast; rfl, q1, q2, ?_, q3, q4, HA.out.grown hgr (HA.out.ne HX.out (by decide)), ?_⟩
                · rw [marks_succ, ← List.append_assoc]
                  have e1 : pR (Up T i m wr.heap.size) i m = .slice (some ⟨wr.heap.size, 0, none⟩) 1 1 := by unfold pR; rw [Up_same]; rfl
                  rw [e1]
                  exact ho1
                · refine (HT.out.grown hgr (HT.out.ne HX.out (by decide))).up ?_ hsz (fun j m' hm' => by
                    rcases hm' with hm' | hm'
                    · exact .inr (.inl hm')
                    · by_cases e : m' = m
                      · exact .inl ⟨hm'.1, e⟩
                      · exact .inr (.inr ⟨hm'.1, by omega⟩))
                  rw [tB_val, hgr1.block wr.heap.size (by simp) (fun e => ?_)]
                  · exact heap_alloc_new wr _
                  · have := (HX.out.lt _ e.symm).2
                    omega
              case measure => simp [intOf]; omega
            · obtain rfl : m = 8 := by omega
              obtain ⟨gx, cx, rfl, _, hgx⟩ := own_shape hx (by omega)
              clear hbk hlg hx hxb hys hga hgt
              go_wp2_with (at_builtin; refine wpList_append_stay _ rfl (.tmp 66) (.tmp 68) 57 rfl w.heap.size 30 i1 (.slice none 0 0) 24 und57 hi1 hy0 hy1 hy2 rfl _ i _ rfl (HL.out.row.alloc _) ⟨wr.heap.size, 0, none⟩ 1 (.slice (some ⟨gx, 0, none⟩) (ln i + 8) cx) rfl (news_alloc wr [.slice (some ⟨gx, 0, none⟩) (ln i + 8) cx] 30) rfl (by unfold maxLen; omega) (by omega) (by simp; omega) ?_; intro g cap w1 hown1 hst1 hgl; have HO1 := Lib.hid hown1; have HS1 := Lib.hid hst1; have HGL := Lib.hid hgl; clear hown1 hst1 hgl)
              go_roundw
              case rel =>
                have hgr := grown_alloc' HS1.out.grown
                refine ⟨i + 1, ys ++ [.slice (some ⟨gx, 0, none⟩) (ln i + 8) cx], T, by omega, by push_cast; rfl, HB.out.fresh (by decide) hgr (fun k hk => (HL.out.row.lt k hk).1), HL.out.snoc (by decide) HO1.out hgr HX.out HV.out (HXB.out.imp id (fun h k hk => Nat.le_trans hWi0 (h k hk))), ?_, HA.out.grown hgr (HA.out.ne HL.out.row (by decide)), (HT.out.grown hgr (HT.out.ne HL.out.row (by decide))).imp (fun j m' hm' => by
                  rcases hm' with hm' | hm'
                  · by_cases e : j = i
                    · subst e; exact .inr ⟨rfl, hm'.2⟩
                    · exact .inl ⟨by omega, hm'.2⟩
                  · omega)⟩
                intro y hy k hk
                have hs2 := hgr.size
                rcases List.mem_append.1 hy with hy | hy
                · have := HY.out y hy k hk
                  omega
                · simp at hy
                  subst hy
                  injection hk with hk
                  have : gx = k := hk
                  omega
              case measure => simp [intOf]; omega
        · obtain rfl : i = vs.length := by omega
          obtain ⟨w3, hw3⟩ : ∃ w3, wr = w3 := ⟨_, rfl⟩
          subst hw3
          go_wp2_with fail
          go_loopw [9] (fun i w' => ∃ i' : Nat, i' ≤ vs.length ∧ i = .int .i64 i' ∧ wr = w') (fun i _ => vs.length - (intOf i).toNat)
          case atStart => exact ⟨0, Nat.zero_le _, rfl, rfl⟩
          case round =>
            obtain ⟨i, hi, rfl, hw⟩ := hrel
            subst hw
            by_cases hlt : i < vs.length
            · obtain ⟨v, hv⟩ : ∃ v, vs[i]? = some v := ⟨_, List.getElem?_eq_getElem hlt⟩
              obtain ⟨y, hy⟩ : ∃ y, ys[i]? = some y := ⟨_, List.getElem?_eq_getElem (by have := HLG.out.len; omega)⟩
              obtain ⟨g0, c0, hv0, _, _⟩ := own_shape HBK.out.row (by omega)
              injection hv0 with ha0 _ hc0
              subst ha0 hc0
              obtain ⟨gl, cl, hl0, _, _⟩ := own_shape HLG.out.row (by omega)
              injection hl0 with ha1 _ hc1
              subst ha1 hc1
              have hc1 : wr.cell? ⟨g0, i, none⟩ = some v := (HBK.out.row.cellAt i (by omega)).trans hv
              have hc2 : wr.cell? ⟨gl, i, none⟩ = some y := (HLG.out.row.cellAt i (by omega)).trans hy
              obtain ⟨xs, hxs, hup⟩ := HBK.out.rows i v hv
              subst hup
              obtain ⟨hyr, _⟩ := HLG.out.rows i y v hy hv
              obtain ⟨av, cv, rfl⟩ := own_slice hxs
              obtain ⟨gy, cy, rfl, _, _⟩ := own_shape hyr (by omega)
              have HXS := Lib.hid hxs
              have HYR := Lib.hid hyr
              have hlni := hln i
              have j1 : (0 : Int) ≤ (i : Int) ∧ (i : Int) < (vs.length : Int) := by omega
              clear hxs hyr hv hy
              go_wp2_with fail
              go_loopw [11] (fun k w' => ∃ k' : Nat, k' ≤ ln i ∧ k = .int .i64 k' ∧ wr = w') (fun k _ => ln i - (intOf k).toNat)
              case atStart => exact ⟨0, Nat.zero_le _, rfl, rfl⟩
              case round =>
                obtain ⟨k, hk, rfl, hw⟩ := hrel
                subst hw
                by_cases hlk : k < ln i
                · obtain ⟨gv, cv', hv1, _, _⟩ := own_shape HXS.out (by omega)
                  injection hv1 with hb1 _ hb2
                  subst hb1 hb2
                  have hd1 : wr.cell? ⟨gv, k, none⟩ = some (pR A0 i k) := (HXS.out.cellAt k (by omega)).trans (marks_get _ _ _ _ hlk)
                  have hd2 : wr.cell? ⟨gy, k, none⟩ = some (pR A0 i k) := (HYR.out.cellAt k (by omega)).trans (by rw [List.getElem?_append_left (by rw [marks_len]; exact hlk)]; exact marks_get _ _ _ _ hlk)
                  have he1 := HGA.out.cell (.inl ⟨hlt, hlk⟩)
                  rw [pB_val] at he1
                  unfold pR sl1 at hd1 hd2
                  have j2 : (0 : Int) ≤ (k : Int) ∧ (k : Int) < ((ln i : Nat) : Int) := by omega
                  have j3 : (k : Int) < ((ln i + 8 : Nat) : Int) := by omega
                  go_wp2
                  go_roundw
                  case rel => exact ⟨k + 1, by omega, by push_cast; rfl, trivial⟩
                  case measure => simp [intOf]; omega
                · obtain rfl : k = ln i := by omega
                  go_wp2_with fail
                  go_loopw [12] (fun k w' => ∃ k' : Nat, k' ≤ 8 ∧ k = .int .i64 k' ∧ wr = w') (fun k _ => 8 - (intOf k).toNat)
                  case atStart => exact ⟨0, Nat.zero_le _, rfl, rfl⟩
                  case round =>
                    obtain ⟨k, hk, rfl, hw⟩ := hrel
                    subst hw
                    by_cases hlk : k < 8
                    · have hd1 : wr.cell? ⟨gy, ln i + k, none⟩ = some (pR T0 i k) := (HYR.out.cellAt (ln i + k) (by omega)).trans (by rw [List.getElem?_append_right (by rw [marks_len]; omega), marks_len, Nat.add_sub_cancel_left]; exact marks_get _ _ _ _ hlk)
                      have he1 := HGT.out.cell (.inl ⟨hlt, hlk⟩)
                      rw [tB_val] at he1
                      unfold pR sl1 at hd1
                      have j2 : (0 : Int) ≤ (ln i : Int) + (k : Int) ∧ (ln i : Int) + (k : Int) < ((ln i + 8 : Nat) : Int) := by omega
                      go_wp2
                      go_roundw
                      case rel => exact ⟨k + 1, by omega, by push_cast; rfl, trivial⟩
                      case measure => simp [intOf]; omega
                    · obtain rfl : k = 8 := by omega
                      go_wp2
                      go_roundw
                      case rel => exact ⟨i + 1, by omega, by push_cast; rfl, trivial⟩
                      case measure => simp [intOf]; omega
            · obtain rfl : i = vs.length := by omega
              go_wp2
              go_ret
              exact ⟨rfl, HBK.out.oth⟩
end Go.Proofs.Ytckmeomhcikmoaa
