import Derived.Test.YtepjpdhmjchakaaGreatDoorP1
import Derived.Deep.AppendLies
import Derived.RegionTactic
import Derived.BigRegion
import Derived.Deep.DeepCutAuto
/- The program's bit writer: its contracts. -/
namespace Go.Proofs.YtepjpdhmjchakaaGreatDoor
open Go.RowKit

/-- Only block p, and row r, of what was there may have turned. -/
structure Gro (p : Nat) (r : Option Nat) (w w' : World) : Prop where
  os : w'.os = w.os
  tape : w'.tape = w.tape
  output : w'.output = w.output
  size : w.heap.size ≤ w'.heap.size
  block : ∀ k, k < w.heap.size → k ≠ p → some k ≠ r → w'.heap[k]? = w.heap[k]?

/-- The row is the old one, or new. -/
def Anew (w : World) (r r' : Option Nat) : Prop := ∀ k, r' = some k → r = some k ∨ w.heap.size ≤ k

theorem Gro.refl (p : Nat) (r : Option Nat) (w : World) : Gro p r w w := ⟨rfl, rfl, rfl, Nat.le_refl _, fun _ _ _ _ => rfl⟩
theorem Gro.trans {p : Nat} {r r' : Option Nat} {a b c : World} (h : Gro p r a b) (k : Gro p r' b c) (hr : Anew a r r') : Gro p r a c :=
  ⟨k.os.trans h.os, k.tape.trans h.tape, k.output.trans h.output, Nat.le_trans h.size k.size, fun i hi h1 h2 =>
    (k.block i (Nat.lt_of_lt_of_le hi h.size) h1 (fun e => by rcases hr i e.symm with e2 | e2; exact h2 e2.symm; omega)).trans (h.block i hi h1 h2)⟩
theorem Anew.refl (w : World) (r : Option Nat) : Anew w r r := fun _ h => .inl h
theorem Anew.trans {a b : World} {r r' r'' : Option Nat} (h : Anew a r r') (k : Anew b r' r'') (hs : a.heap.size ≤ b.heap.size) : Anew a r r'' := fun i hi => by
  rcases k i hi with e | e
  · exact h i e
  · exact .inr (Nat.le_trans hs e)
theorem Gro.below {p B : Nat} {r : Option Nat} {w w' : World} (h : Gro p r w w') (hB : B ≤ w.heap.size) (hp : B ≤ p) (hr : ∀ k, r = some k → B ≤ k) : Below B w w' :=
  ⟨h.os, h.tape, h.output, h.size, fun k hk => h.block k (by omega) (by omega) (fun e => by have := hr k e.symm; omega)⟩

/-- A writer at block B: the bits L, its row r. -/
structure Wr (w : World) (B : Nat) (r : Option Nat) (L : List Bool) : Prop where
  ex : ∃ v, w.heap[B]? = some (.cells #[v, .int .i64 (L.length : Int)] 221 (0, 0)) ∧ w.ownsRow 0 5 1 v (Bt.pack L).length ((Bt.pack L).map f8) ∧ v.ownBlock = r
  ne : r ≠ some B

theorem info5 : (Tryz.prog.info? 5).map (fun i => (i.zero, i.size, i.bytes)) = some (some (.int .u8 0), 1, 1) := by kernel_rfl

theorem new_any (w : World) : Calls Tryz.prog 66 #[] w fun e w' => e = .returned (.pointer (some ⟨w.heap.size, 0, none⟩)) ∧ w' = w.alloc (.cells #[.slice none 0 0, .int .i64 0] 221) := by
  go_enter Tryz.func66, Tryz.ntmps66
  go_wp2
  go_ret
  exact ⟨rfl, rfl⟩

theorem new_wr (w : World) : Wr (w.alloc (.cells #[.slice none 0 0, .int .i64 0] 221)) w.heap.size none [] :=
  ⟨⟨_, heap_alloc_new w _, World.ownsRow_nil _ _ _ _, rfl⟩, by simp⟩

theorem own_of_same {w w' : World} {base : Nat} {e : TypeId} {size : Nat} {v : Value} {n : Nat} {xs : List Value} (h : w.ownsRow base e size v n xs) (hs : ∀ k, v.ownBlock = some k → w'.heap[k]? = w.heap[k]?) : w'.ownsRow base e size v n xs := by
  obtain ⟨h1, ⟨rfl, h2⟩ | ⟨g, cap, cur, rfl, h3⟩⟩ := h
  · exact ⟨h1, .inl ⟨rfl, h2⟩⟩
  · exact ⟨h1, .inr ⟨g, cap, cur, rfl, h3.1, by rw [hs g rfl]; exact h3.2.1, h3.2.2⟩⟩

theorem two_cells {w : World} {B : Nat} {a b : Value} {t : TypeId} (h : w.heap[B]? = some (.cells #[a, b] t (0, 0))) :
    w.cell? ⟨B, 0, none⟩ = some a ∧ w.cell? ⟨B, 1, none⟩ = some b ∧ ∀ j, w.frozen? ⟨B, j, none⟩ = false :=
  ⟨by rw [cell_of_row _ _ _ _ _ _ h]; rfl, by rw [cell_of_row _ _ _ _ _ _ h]; rfl, fun j => frozen_of_row _ _ _ _ _ h⟩

theorem grow_two {w w1 : World} {B : Nat} {o : Obj} {x : Obj} {v : Value} {r : Option Nat} (h : w.heap[B]? = some x) (hg : (w.alloc o).grownBy w1 v.ownBlock) (hr : v.ownBlock = r) (hne : r ≠ some B) : w1.heap[B]? = some x := by
  have hl : B < w.heap.size := by
    rcases Nat.lt_or_ge B w.heap.size with h2 | h2
    · exact h2
    · rw [Array.getElem?_eq_none h2] at h; cases h
  rw [hg.block B (by simp; omega) (by rw [hr]; exact fun e => hne e.symm), Below.heap_alloc _ _ _ hl]; exact h

/-- What a bit leaves: the field's value and the row's bytes, laid together. -/
theorem wr_mk {w' : World} {B g cap : Nat} {L : List Bool} {b : Bool} (hB : w'.heap[B]? = some (.cells #[.slice (some ⟨g, 0, none⟩) (Bt.pack (L ++ [b])).length cap, .int .i64 ((L.length : Int) + 1)] 221 (0, 0)))
    (hown : w'.ownsRow 0 5 1 (.slice (some ⟨g, 0, none⟩) (Bt.pack (L ++ [b])).length cap) (Bt.pack (L ++ [b])).length ((Bt.pack (L ++ [b])).map f8)) (hne : g ≠ B) : Wr w' B (some g) (L ++ [b]) :=
  ⟨⟨_, by rw [hB]; simp, hown, rfl⟩, by simpa using hne⟩

theorem W8_or (x y : UInt8) : bits .or .u8 (W8 x) (W8 y) = W8 (x ||| y) := by
  show IntKind.u8.wrap ((BitVec.ofInt 8 (W8 x) ||| BitVec.ofInt 8 (W8 y)).toNat : Int) = _
  rw [W8_ofInt, W8_ofInt, IntKind.wrap_u8', ← UInt8.toBitVec_or]
  have := (x ||| y).toNat_lt
  show (((x ||| y).toNat : Int) % 256) = ((x ||| y).toNat : Int)
  omega
theorem or_top (y : UInt8) (r : Nat) (hr : r < 8) : bits .or .u8 (W8 y) (128 / 2 ^ r) = W8 (y ||| Bt.top r) := by
  have e : (128 / 2 ^ r : Int) = W8 (Bt.top r) := by
    have : ∀ r : Fin 8, (128 / 2 ^ r.val : Int) = W8 (Bt.top r.val) := by decide
    exact this ⟨r, hr⟩
  rw [e, W8_or]

set_option maxRecDepth 100000 in
theorem bit_any (w : World) (B : Nat) (r : Option Nat) (L : List Bool) (b : Bool) (h : Wr w B r L) (hL : L.length < 1099511627776) :
    Calls Tryz.prog 88 #[.pointer (some ⟨B, 0, none⟩), .bool b] w fun e w' => e = .returned (.tuple #[]) ∧ ∃ r', Wr w' B r' (L ++ [b]) ∧ Gro B r w w' ∧ Anew w r r' := by
  obtain ⟨⟨v, hB, hown, hr⟩, hne⟩ := h
  obtain ⟨i0, hi0, hz0, hz1, hz2⟩ := info_parts info5
  have c0 : w.cell? ⟨B, 0, none⟩ = some v := by rw [cell_of_row _ _ _ _ _ _ hB]; rfl
  have c1 : w.cell? ⟨B, 1, none⟩ = some (.int .i64 (L.length : Int)) := by rw [cell_of_row _ _ _ _ _ _ hB]; rfl
  have fz : ∀ j, w.frozen? ⟨B, j, none⟩ = false := fun j => frozen_of_row _ _ _ _ _ hB
  have hBl := block_lt_of_cell c0
  have HB := Lib.hid hB
  have HO := Lib.hid hown
  have hpl := Bt.pack_len L
  clear hB hown
  have hlen : (Bt.pack L).length < 1099511627776 := by omega
  generalize hl : (if L.length % 8 = 0 then Bt.pack L ++ [0] else Bt.pack L) = l
  have hll : L.length / 8 < l.length ∧ l.length < 1099511627776 := by
    rw [← hl]; split
    · rw [List.length_append]; simp; omega
    · omega
  have hdec : ((((L.length : Int) % 8) == 0) = true ∧ L.length % 8 = 0) ∨ ((((L.length : Int) % 8) == 0) = false ∧ ¬ L.length % 8 = 0) := by
    by_cases hn : L.length % 8 = 0
    · left; exact ⟨by simp; omega, hn⟩
    · right; exact ⟨by simp; omega, hn⟩
  have HL0 := Lib.hid hl
  clear hl hpl
  go_enter Tryz.func88, Tryz.ntmps88
  go_upto_if 9 with fail
  go_cut [] (fun wx => ∃ g cap, wx.heap[B]? = some (.cells #[.slice (some ⟨g, 0, none⟩) l.length cap, .int .i64 (L.length : Int)] 221 (0, 0)) ∧
    wx.ownsRow 0 5 1 (.slice (some ⟨g, 0, none⟩) l.length cap) l.length (l.map f8) ∧ g ≠ B ∧ Gro B r w wx ∧ Anew w r (some g))
  case first =>
    rcases hdec with ⟨ht, hn⟩ | ⟨ht, hn⟩
    · have HN := Lib.hid hn
      clear hn
      go_wp2_with (at_builtin; refine wpList_append_lies _ rfl (.tmp 14) (.tmp 15) 24 rfl 0 5 i0 (.int .u8 0) 1 1 Tryz.underlying24 hi0 hz0 hz1 hz2 rfl (by decide) v (Bt.pack L).length _ rfl (HO.out.alloc _) ⟨w.heap.size, 0, none⟩ 1 1 [.int .u8 0] rfl rfl (news_alloc w [.int .u8 0] 5) (by simp [Value.oneCell']) (by omega) (by unfold maxLen; omega) (by omega) (Nat.zero_le _) _ rfl ?_; intro g cap w1 hown1 hgrow1 hg hgl; have hB1 := grow_two HB.out hgrow1 hr hne; obtain ⟨d0, d1, dz⟩ := two_cells hB1; have HG := Lib.hid hg; have HB1 := Lib.hid hB1; clear hg hB1)
      go_meet
      case rel =>
        have el : l = Bt.pack L ++ [0] := by rw [← HL0.out, if_pos HN.out]
        have el2 : l.length = (Bt.pack L).length + 1 := by rw [el]; simp
        have hgB : g ≠ B := by
          intro e; subst e
          rcases HG.out with e | e
          · exact hne (hr.symm.trans e)
          · simp at e; omega
        refine ⟨g, cap, ?_, ?_, hgB, ?_, ?_⟩
        · rw [el2, heap_setCell_same _ _ _ _ _ _ HB1.out]; rfl
        · rw [el2, el, List.map_append]
          exact own_of_same hown1 (fun k hk => heap_setCell_other _ _ _ _ (by injection hk with hk; exact fun e => hgB (hk.trans e)))
        · refine ⟨hgrow1.os, hgrow1.tape, hgrow1.output, ?_, fun k hk h1 h2 => ?_⟩
          · have := hgrow1.size; simp at this ⊢; omega
          · rw [heap_setCell_other _ _ _ _ h1, hgrow1.block k (by simp; omega) (by rw [hr]; exact h2), Below.heap_alloc _ _ _ hk]
        · intro k hk
          injection hk with hk; subst hk
          rcases HG.out with e | e
          · exact .inl (hr.symm.trans e)
          · right; simp at e; omega
    · go_wp2
      go_meet
      case rel =>
        have el : l = Bt.pack L := by rw [← HL0.out, if_neg hn]
        obtain ⟨g, cap, rfl, _, _⟩ := own_shape HO.out (by rw [← el]; omega)
        have hr' : r = some g := hr.symm
        subst hr'
        subst el
        exact ⟨g, cap, HB.out, HO.out, fun e => hne (by rw [e]), Gro.refl _ _ _, Anew.refl _ _⟩
  case rest =>
    obtain ⟨g, cap, hB2, hown2, hg, hgr, hanew⟩ := hcut
    obtain ⟨d0, d1, dz⟩ := two_cells hB2
    have hsn := Bt.pack_snoc L b
    rw [HL0.out] at hsn
    have HB2 := Lib.hid hB2
    have HO2 := Lib.hid hown2
    have HS := Lib.hid hsn
    have hgB := Lib.hid hg
    clear hsn hB2 hdec HL0 HB HO c0 c1 fz
    have hcell : wc.cell? ⟨g, L.length / 8, none⟩ = some (.int .u8 (W8 (l.getD (L.length / 8) 0))) := by
      rw [hown2.cellAt _ (by omega)]
      simp [List.getD, hll.1]; rfl
    have hfz := hown2.frozenAt (L.length / 8)
    clear hown2
    have h8 := W8_lt (l.getD (L.length / 8) 0)
    generalize hy : l.getD (L.length / 8) 0 = y at *
    have HY := Lib.hid hy
    clear hy
    have hm8 : L.length % 8 < 8 := Nat.mod_lt _ (by omega)
    cases b
    · go_wp2
      go_end0
      have hp : Bt.pack (L ++ [false]) = l := by rw [HS.out]; simp
      refine ⟨rfl, some g, wr_mk (cap := cap) ?_ ?_ hgB.out, ?_, hanew⟩
      · rw [hp, heap_setCell_same _ _ _ _ _ _ HB2.out]; rfl
      · rw [hp]
        exact own_of_same (w := wc) HO2.out (fun k hk => heap_setCell_other _ _ _ _ (by injection hk with hk; exact fun e => hgB.out (hk.trans e)))
      · exact ⟨hgr.os, hgr.tape, hgr.output, by simpa using hgr.size, fun k hk h1 h2 => (heap_setCell_other _ _ _ _ h1).trans (hgr.block k hk h1 h2)⟩
    · go_wp2
      go_region
      all_goals go_wp2
      all_goals go_end0
      have hp : Bt.pack (L ++ [true]) = l.set (L.length / 8) (y ||| Bt.top (L.length % 8)) := by rw [HS.out, HY.out]; simp
      have hst := HO2.out.stored (L.length / 8) (.int .u8 (W8 (y ||| Bt.top (L.length % 8))))
      rw [or_top y _ hm8]
      refine ⟨rfl, some g, wr_mk (cap := cap) ?_ ?_ hgB.out, ?_, hanew⟩
      · have h1 : (wc.setCell ⟨g, L.length / 8, none⟩ (.int .u8 (W8 (y ||| Bt.top (L.length % 8))))).heap[B]? = some (.cells #[.slice (some ⟨g, 0, none⟩) l.length cap, .int .i64 (L.length : Int)] 221 (0, 0)) := by
          rw [heap_setCell_other _ _ _ _ (fun e => hgB.out e.symm)]; exact HB2.out
        rw [heap_drew, hp, List.length_set, heap_setCell_same _ _ _ _ _ _ h1]; rfl
      · rw [hp, List.length_set, List.map_set]
        exact own_of_same hst.1 (fun k hk => heap_setCell_other _ _ _ _ (by injection hk with hk; exact fun e => hgB.out (hk.trans e)))
      · refine ⟨hgr.os, hgr.tape, hgr.output, by simpa using hgr.size, fun k hk h1 h2 => ?_⟩
        rw [heap_drew, heap_setCell_other _ _ _ _ h1]
        by_cases e : k = g
        · subst e
          rcases hanew k rfl with e2 | e2
          · exact absurd e2.symm h2
          · omega
        · rw [heap_setCell_other _ _ _ _ e]; exact hgr.block k hk h1 h2
end Go.Proofs.YtepjpdhmjchakaaGreatDoor

/- The bit writer's Bits, Varint, Signed, Len, Bytes. -/
namespace Go.Proofs.YtepjpdhmjchakaaGreatDoor
open Go.RowKit

theorem bit_of64 (v j : Nat) (hv : v < 18446744073709551616) : (bits .and .u64 ((v : Int) / 2 ^ j) 1 != 0) = v.testBit j := by
  have e : ((v : Int) / 2 ^ j) = ((v / 2 ^ j : Nat) : Int) := by rw [Int.natCast_ediv, Int.natCast_pow]; rfl
  have h1 : v / 2 ^ j < 2 ^ 64 := Nat.lt_of_le_of_lt (Nat.div_le_self _ _) (by omega)
  have e2 : bits .and .u64 ((v / 2 ^ j : Nat) : Int) 1 = ((v / 2 ^ j % 2 : Nat) : Int) := by
    show IntKind.u64.wrap ((BitVec.ofInt 64 ((v / 2 ^ j : Nat) : Int) &&& BitVec.ofInt 64 (1 : Int)).toNat : Int) = _
    rw [BitVec.ofInt_natCast, BitVec.toNat_and, BitVec.toNat_ofNat, Nat.mod_eq_of_lt h1]
    have e3 : (BitVec.ofInt 64 (1 : Int)).toNat = 1 := by decide
    rw [e3, Nat.and_one_is_mod, IntWalk.u64_in]
    have := Nat.mod_lt (v / 2 ^ j) (show 0 < 2 by omega)
    omega
  rw [e, e2, Nat.testBit_eq_decide_div_mod_eq]
  have := Nat.mod_lt (v / 2 ^ j) (show 0 < 2 by omega)
  by_cases h : v / 2 ^ j % 2 = 1
  · rw [h]; rfl
  · have h0 : v / 2 ^ j % 2 = 0 := by omega
    rw [h0]; rfl

theorem nb_take (v n k : Nat) (hk : k < n) : (Bt.nb v n).take (k + 1) = (Bt.nb v n).take k ++ [v.testBit (n - 1 - k)] := by
  rw [List.take_succ_eq_append_getElem (by rw [Bt.nb_len]; exact hk)]
  simp [Bt.nb]

set_option maxRecDepth 100000 in
theorem bits_any (w : World) (B : Nat) (r : Option Nat) (L : List Bool) (v n : Nat) (h : Wr w B r L) (hL : L.length + n < 1099511627776) (hv : v < 18446744073709551616) (hn : n ≤ 64) :
    Calls Tryz.prog 69 #[.pointer (some ⟨B, 0, none⟩), .int .u64 v, .int .i64 n] w fun e w' => e = .returned (.int .u16 0) ∧ ∃ r', Wr w' B r' (L ++ Bt.nb v n) ∧ Gro B r w w' ∧ Anew w r r' := by
  go_enter Tryz.func69, Tryz.ntmps69
  go_wp2
  go_loopw [7] (fun i wr => ∃ (k : Nat) (r' : Option Nat), k ≤ n ∧ i = .int .i64 ((n : Int) - 1 - k) ∧ Wr wr B r' (L ++ (Bt.nb v n).take k) ∧ Gro B r w wr ∧ Anew w r r') (fun i _ => (intOf i + 1).toNat)
  case atStart => exact ⟨0, r, by omega, by simp, by simpa using h, Gro.refl _ _ _, Anew.refl _ _⟩
  case round =>
    obtain ⟨k, r', hk, rfl, hwr, hgr, han⟩ := hrel
    by_cases hlt : k < n
    · have hb := bit_of64 v (n - 1 - k) hv
      have HW := Lib.hid hwr
      clear hwr h
      have hi : (0 : Int) ≤ (n : Int) - 1 - k := by omega
      have hlen : (L ++ (Bt.nb v n).take k).length < 1099511627776 := by
        rw [List.length_append, List.length_take, Bt.nb_len]; omega
      have ht : ((n : Int) - 1 - k).toNat = n - 1 - k := by omega
      go_wp2_with (go_at_call 88; refine (bit_any _ B r' _ _ HW.out hlen).mono ?_; rintro e w1 ⟨rfl, r1, hw1, hg1, ha1⟩)
      go_roundw
      case rel =>
        refine ⟨k + 1, r1, by omega, ?_, ?_, hgr.trans hg1 han, han.trans ha1 hgr.size⟩
        · rw [show ((n : Int) - 1 - k - 1) = (n : Int) - 1 - ((k + 1 : Nat) : Int) from by omega]
        · rw [nb_take v n k hlt, ← List.append_assoc]; exact hw1
      case measure => simp [intOf]; omega
    · have e : k = n := by omega
      subst e
      have ht : (Bt.nb v k).take k = Bt.nb v k := List.take_of_length_le (by rw [Bt.nb_len]; exact Nat.le_refl _)
      rw [ht] at hwr
      have HW := Lib.hid hwr
      clear hwr h ht
      go_wp2
      go_ret
      exact ⟨rfl, r', HW.out, hgr, han⟩

theorem bits_bad (w : World) (B : Nat) (v : Nat) (n : Int) (hn : n < 0 ∨ 64 < n) :
    Calls Tryz.prog 69 #[.pointer (some ⟨B, 0, none⟩), .int .u64 v, .int .i64 n] w fun e w' => e = .returned (.int .u16 1) ∧ w = w' := by
  rcases hn with hn | hn
  all_goals
    go_enter Tryz.func69, Tryz.ntmps69
    go_wp2
    go_ret
    exact ⟨rfl, rfl⟩

theorem or128 (v : Nat) : bits .or .u64 (bits .and .u64 (v : Int) 127) 128 = ((v % 128 + 128 : Nat) : Int) := by
  have e1 : bits .and .u64 (v : Int) 127 = ((v % 128 : Nat) : Int) := by
    show IntKind.u64.wrap ((BitVec.ofInt 64 (v : Int) &&& BitVec.ofInt 64 (127 : Int)).toNat : Int) = _
    have e3 : (BitVec.ofInt 64 (127 : Int)).toNat = 2 ^ 7 - 1 := by decide
    rw [BitVec.ofInt_natCast, BitVec.toNat_and, BitVec.toNat_ofNat, e3, Nat.and_two_pow_sub_one_eq_mod, Nat.mod_mod_of_dvd _ (by decide : 2 ^ 7 ∣ 2 ^ 64), IntWalk.u64_in]
    have := Nat.mod_lt v (show 0 < 2 ^ 7 by omega)
    omega
  rw [e1]
  have h7 : v % 128 < 2 ^ 7 := Nat.mod_lt _ (by omega)
  show IntKind.u64.wrap ((BitVec.ofInt 64 ((v % 128 : Nat) : Int) ||| BitVec.ofInt 64 (128 : Int)).toNat : Int) = _
  have e3 : (BitVec.ofInt 64 (128 : Int)).toNat = 2 ^ 7 * 1 := by decide
  rw [BitVec.ofInt_natCast, BitVec.toNat_or, BitVec.toNat_ofNat, e3, Nat.mod_eq_of_lt (by omega), Nat.or_comm, ← Nat.two_pow_add_eq_or_of_lt h7, IntWalk.u64_in]
  · omega
  · omega

theorem vb_len (k v : Nat) : (Bt.vbf k v).length ≤ 8 * (k + 1) := by
  induction k generalizing v with
  | zero => rw [Bt.vbf, Bt.nb_len]; omega
  | succ k ih => rw [Bt.vbf]; split
                 · rw [List.length_append, Bt.nb_len]; have := ih (v / 128); omega
                 · rw [Bt.nb_len]; omega

set_option maxRecDepth 100000 in
theorem varint_any (w : World) (B : Nat) (r : Option Nat) (L : List Bool) (v : Nat) (h : Wr w B r L) (hL : L.length < 1099511627000) (hv : v < 18446744073709551616) :
    Calls Tryz.prog 87 #[.pointer (some ⟨B, 0, none⟩), .int .u64 v] w fun e w' => e = .returned (.tuple #[]) ∧ ∃ r', Wr w' B r' (L ++ Bt.vb v) ∧ Gro B r w w' ∧ Anew w r r' := by
  go_enter Tryz.func87, Tryz.ntmps87
  go_wp2_with fail
  go_loopw [1] (fun i wr => ∃ (k u : Nat) (L' : List Bool) (r' : Option Nat), i = .int .u64 u ∧ u < 128 ^ (k + 1) ∧ k ≤ 10 ∧ L'.length + 8 * k ≤ L.length + 80 ∧ u < 18446744073709551616 ∧ L' ++ Bt.vbf k u = L ++ Bt.vb v ∧ Wr wr B r' L' ∧ Gro B r w wr ∧ Anew w r r') (fun i _ => (intOf i).toNat)
  case atStart => exact ⟨10, v, L, r, rfl, by omega, by omega, by omega, hv, rfl, h, Gro.refl _ _ _, Anew.refl _ _⟩
  case round =>
    obtain ⟨k, u, L', r', rfl, hu, hk, hl, hu2, hL', hwr, hgr, han⟩ := hrel
    have HW := Lib.hid hwr
    have HL := Lib.hid hL'
    have HU := Lib.hid hu
    clear hwr h hL' hu
    by_cases hlt : 127 < u
    · have ho := or128 u
      have hm : u % 128 + 128 < 18446744073709551616 := by omega
      go_wp2_with (go_at_call 69; refine (bits_any _ B r' L' (u % 128 + 128) 8 HW.out (by omega) hm (by omega)).mono ?_; rintro e w1 ⟨rfl, r1, hw1, hg1, ha1⟩)
      go_roundw
      case rel =>
        cases k with
        | zero => have := HU.out; simp at this; omega
        | succ k =>
          refine ⟨k, u / 128, L' ++ Bt.nb (u % 128 + 128) 8, r1, by go_num, ?_, by omega, by rw [List.length_append, Bt.nb_len]; omega, by omega, ?_, hw1, hgr.trans hg1 han, han.trans ha1 hgr.size⟩
          · have := HU.out; rw [Nat.pow_succ] at this; exact Nat.div_lt_of_lt_mul (by rw [Nat.mul_comm]; exact this)
          · rw [← HL.out, Bt.vbf, if_pos hlt, List.append_assoc]
      case measure => simp [intOf]; omega
    · have hv8 : Bt.vbf k u = Bt.nb u 8 := by
        cases k with
        | zero => rfl
        | succ k => rw [Bt.vbf, if_neg hlt]
      go_wp2_with (go_at_call 69; refine (bits_any _ B r' L' u 8 HW.out (by omega) hu2 (by omega)).mono ?_; rintro e w1 ⟨rfl, r1, hw1, hg1, ha1⟩)
      go_end0
      refine ⟨rfl, r1, ?_, hgr.trans hg1 han, han.trans ha1 hgr.size⟩
      rw [← HL.out, hv8]; exact hw1

/-- A number that may be below 0, as one that is not. -/
def zz (x : Int) : Nat := if 0 ≤ x then (2 * x).toNat else (-2 * x - 1).toNat

theorem zz_lt (x : Int) (h1 : -9223372036854775808 ≤ x) (h2 : x ≤ 9223372036854775807) : zz x < 18446744073709551616 := by unfold zz; split <;> omega
theorem zz_pos (x : Int) (h0 : 0 ≤ x) (h2 : x ≤ 9223372036854775807) : bits .xor .u64 (x * 2) (x / 9223372036854775808) = (zz x : Int) := by
  have e : x / 9223372036854775808 = 0 := by omega
  rw [e]
  show IntKind.u64.wrap ((BitVec.ofInt 64 (x * 2) ^^^ BitVec.ofInt 64 (0 : Int)).toNat : Int) = _
  have e3 : BitVec.ofInt 64 (0 : Int) = 0#64 := by decide
  obtain ⟨y, rfl⟩ := Int.eq_ofNat_of_zero_le h0
  have e4 : ((y : Int) * 2) = ((y * 2 : Nat) : Int) := by omega
  rw [e3, BitVec.xor_zero, e4, BitVec.ofInt_natCast, BitVec.toNat_ofNat, Nat.mod_eq_of_lt (by omega), IntWalk.u64_in _ (by omega)]
  unfold zz
  rw [if_pos h0]
  omega
theorem zz_neg (x : Int) (h0 : ¬ 0 ≤ x) (h1 : -9223372036854775808 ≤ x) :
    bits .xor .u64 (IntKind.u64.wrap (IntKind.u64.wrap x * 2)) (IntKind.u64.wrap (x / 9223372036854775808)) = (zz x : Int) := by
  have e : x / 9223372036854775808 = -1 := by omega
  have w64 : ∀ n : Int, IntKind.u64.wrap n = n % 18446744073709551616 := fun n => by simp [IntKind.wrap, IntKind.bits, IntKind.signed]
  rw [e, w64, w64, w64]
  show IntKind.u64.wrap ((BitVec.ofInt 64 (x % 18446744073709551616 * 2 % 18446744073709551616) ^^^ BitVec.ofInt 64 (-1 % 18446744073709551616 : Int)).toNat : Int) = _
  have e3 : BitVec.ofInt 64 (-1 % 18446744073709551616 : Int) = BitVec.allOnes 64 := by decide
  obtain ⟨y, hy⟩ := Int.eq_ofNat_of_zero_le (show 0 ≤ x % 18446744073709551616 * 2 % 18446744073709551616 by omega)
  rw [e3, hy, BitVec.xor_allOnes, BitVec.ofInt_natCast, BitVec.toNat_not, BitVec.toNat_ofNat, Nat.mod_eq_of_lt (by omega), IntWalk.u64_in _ (by omega)]
  unfold zz
  rw [if_neg h0]
  omega

set_option maxRecDepth 100000 in
theorem signed_any (w : World) (B : Nat) (r : Option Nat) (L : List Bool) (x : Int) (h : Wr w B r L) (hL : L.length < 1099511627000) (h1 : -9223372036854775808 ≤ x) (h2 : x ≤ 9223372036854775807) :
    Calls Tryz.prog 68 #[.pointer (some ⟨B, 0, none⟩), .int .i64 x] w fun e w' => e = .returned (.tuple #[]) ∧ ∃ r', Wr w' B r' (L ++ Bt.vb (zz x)) ∧ Gro B r w w' ∧ Anew w r r' := by
  by_cases hx : 0 ≤ x
  · go_enter Tryz.func68, Tryz.ntmps68
    have hz := zz_pos x hx h2
    have hl := zz_lt x h1 h2
    go_wp2_with (go_at_call 87; refine (varint_any _ B r L (zz x) h hL hl).mono ?_; rintro e w1 ⟨rfl, r1, hw1, hg1, ha1⟩)
    go_end0
    exact ⟨rfl, r1, hw1, hg1, ha1⟩
  · go_enter Tryz.func68, Tryz.ntmps68
    have hz := zz_neg x hx h1
    have hl := zz_lt x h1 h2
    go_wp2_with (go_at_call 87; refine (varint_any _ B r L (zz x) h hL hl).mono ?_; rintro e w1 ⟨rfl, r1, hw1, hg1, ha1⟩)
    go_end0
    exact ⟨rfl, r1, hw1, hg1, ha1⟩

set_option maxRecDepth 100000 in
theorem clone_any (lo hi : Nat) (w : World) (v : Value) (l : List UInt8) (hv : Sl lo hi f8 w v l) (hhi : hi ≤ w.heap.size) :
    Calls Tryz.prog 86 #[v] w fun e w' => ∃ v', e = .returned v' ∧ w'.ownsRow w.heap.size 5 1 v' l.length (l.map f8) ∧ Below w.heap.size w w' := by
  obtain ⟨ao, cap, rfl, hv⟩ := hv
  have hl := hv.len
  obtain ⟨i0, hi0, hz0, hz1, hz2⟩ := info_parts info5
  have hcmp := fun W : World => Lib.run_eql_slice_nil (P := Tryz.prog) W 24 5 ao l.length cap 0 0 Tryz.underlying24
  go_enter Tryz.func86, Tryz.ntmps86
  cases ao with
  | none =>
    obtain ⟨h0, rfl⟩ := hv.none rfl
    have hl0 : l = [] := List.eq_nil_of_length_eq_zero h0
    subst hl0
    simp only [List.length_nil, Option.isNone_none] at hcmp ⊢
    go_wp2
    go_ret
    exact ⟨_, rfl, World.ownsRow_nil _ _ _ _, Below.refl _ _⟩
  | some ad =>
    have hnew : (w.alloc (.cells #[] 5)).ownsRow w.heap.size 5 1 (.slice (some ⟨w.heap.size, 0, none⟩) 0 0) 0 [] :=
      ⟨rfl, .inr ⟨_, 0, #[], rfl, Nat.le_refl _, heap_alloc_new w _, Nat.le_refl _, Nat.zero_le _, rfl, rfl⟩⟩
    have hva := hv.below ((Below.refl w.heap.size w).alloc (Nat.le_refl _) (.cells #[] 5)) hhi
    go_wp2_with (at_builtin; refine wpList_append_sl rfl (.tmp 5) (.tmp 6) 24 rfl w.heap.size 5 i0 (.int .u8 0) 1 Tryz.underlying24 hi0 hz0 hz1 hz2 rfl _ _ _ rfl hnew (some ad) cap l rfl hva (f8_one _) (by unfold maxLen; omega) (by omega) (by simp) ?_; intro v1 w2 hown2 hgrow2)
    go_ret
    rw [Nat.zero_add, List.nil_append] at hown2
    exact ⟨_, rfl, hown2, ((Below.refl _ _).alloc (Nat.le_refl _) _).grown hgrow2 (by simp) (fun k hk => by injection hk with hk; exact Nat.le_of_eq hk)⟩

theorem Wr.sl {w : World} {B : Nat} {r : Option Nat} {L : List Bool} (h : Wr w B r L) (hL : L.length < 1099511627776) :
    ∃ v, w.heap[B]? = some (.cells #[v, .int .i64 (L.length : Int)] 221 (0, 0)) ∧ Sl 0 w.heap.size f8 w v (Bt.pack L) := by
  obtain ⟨⟨v, hB, hown, _⟩, _⟩ := h
  exact ⟨v, hB, Sl.owns hown (by have := Bt.pack_len L; omega)⟩

theorem bytes_any (w : World) (B : Nat) (r : Option Nat) (L : List Bool) (h : Wr w B r L) (hL : L.length < 1099511627776) :
    Calls Tryz.prog 67 #[.pointer (some ⟨B, 0, none⟩)] w fun e w' => ∃ v', e = .returned v' ∧ w'.ownsRow w.heap.size 5 1 v' (Bt.pack L).length ((Bt.pack L).map f8) ∧ Below w.heap.size w w' := by
  obtain ⟨v, hB, hs⟩ := h.sl hL
  obtain ⟨c0, c1, _⟩ := two_cells hB
  have HS := Lib.hid hs
  clear hB hs h
  go_enter Tryz.func67, Tryz.ntmps67
  go_wp2_with (go_at_call 86; refine (clone_any 0 w.heap.size _ v (Bt.pack L) HS.out (Nat.le_refl _)).mono ?_; rintro e w1 ⟨v', rfl, hown, hb⟩)
  go_ret
  exact ⟨v', rfl, hown, hb⟩
end Go.Proofs.YtepjpdhmjchakaaGreatDoor
