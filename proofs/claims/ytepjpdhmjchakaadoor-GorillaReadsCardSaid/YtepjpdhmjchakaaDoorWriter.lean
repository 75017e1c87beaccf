/- The program's bit writer: its contracts. -/
import Derived.Test.YtepjpdhmjchakaaDoorSame
import Derived.Test.YtepjpdhmjchakaaDoorBitsPlain
import Derived.Test.YtepjpdhmjchakaaDoorApp
import Derived.Deep.AppendLies
import Derived.RegionTactic
import Derived.BigRegion
import Derived.Deep.DeepCutAuto
namespace Go.Proofs.YtepjpdhmjchakaaDoor
open Go.RowKit

/-- Only block p, and row r, of what was there may have turned. -/
structure Gro (p : Nat) (r : Option Nat) (w w' : World) : Prop where
  os : w'.os = w.os
  tape : w'.tape = w.tape
  output : w'.output = w.output
  size : w.heap.size ≤ w'.heap.size
  block : ∀ k, k < w.heap.size → k ≠ p → some k ≠ r → w'.heap[k]? = w.heap[k]?

/-- The row is the old one, or new. -/
def Anew (w : World) (r r' : Option Nat) : Prop := ∀ k, r' = some k → r = some k ∨ w.heap.size ≤ k

theorem Gro.refl (p : Nat) (r : Option Nat) (w : World) : Gro p r w w := ⟨rfl, rfl, rfl, Nat.le_refl _, fun _ _ _ _ => rfl⟩
theorem Gro.trans {p : Nat} {r r' : Option Nat} {a b c : World} (h : Gro p r a b) (k : Gro p r' b c) (hr : Anew a r r') : Gro p r a c :=
  ⟨k.os.trans h.os, k.tape.trans h.tape, k.output.trans h.output, Nat.le_trans h.size k.size, fun i hi h1 h2 =>
    (k.block i (Nat.lt_of_lt_of_le hi h.size) h1 (fun e => by rcases hr i e.symm with e2 | e2; exact h2 e2.symm; omega)).trans (h.block i hi h1 h2)⟩
theorem Anew.refl (w : World) (r : Option Nat) : Anew w r r := fun _ h => .inl h
theorem Anew.trans {a b : World} {r r' r'' : Option Nat} (h : Anew a r r') (k : Anew b r' r'') (hs : a.heap.size ≤ b.heap.size) : Anew a r r'' := fun i hi => by
  rcases k i hi with e | e
  · exact h i e
  · exact .inr (Nat.le_trans hs e)
theorem Gro.below {p B : Nat} {r : Option Nat} {w w' : World} (h : Gro p r w w') (hB : B ≤ w.heap.size) (hp : B ≤ p) (hr : ∀ k, r = some k → B ≤ k) : Below B w w' :=
  ⟨h.os, h.tape, h.output, h.size, fun k hk => h.block k (by omega) (by omega) (fun e => by have := hr k e.symm; omega)⟩

/-- A writer at block B: the bits L, its row r. -/
structure Wr (w : World) (B : Nat) (r : Option Nat) (L : List Bool) : Prop where
  ex : ∃ v, w.heap[B]? = some (.cells #[v, .int .i64 (L.length : Int)] 151 (0, 0)) ∧ w.ownsRow 0 5 1 v (Bt.pack L).length ((Bt.pack L).map f8) ∧ v.ownBlock = r
  ne : r ≠ some B

theorem info5 : (Tryd.prog.info? 5).map (fun i => (i.zero, i.size, i.bytes)) = some (some (.int .u8 0), 1, 1) := by kernel_rfl

theorem new_any (w : World) : Calls Tryd.prog 25 #[] w fun e w' => e = .returned (.pointer (some ⟨w.heap.size, 0, none⟩)) ∧ w' = w.alloc (.cells #[.slice none 0 0, .int .i64 0] 151) := by
  go_enter Tryd.func25, Tryd.ntmps25
  go_wp2
  go_ret
  exact ⟨rfl, rfl⟩

theorem new_wr (w : World) : Wr (w.alloc (.cells #[.slice none 0 0, .int .i64 0] 151)) w.heap.size none [] :=
  ⟨⟨_, heap_alloc_new w _, World.ownsRow_nil _ _ _ _, rfl⟩, by simp⟩

theorem own_of_same {w w' : World} {base : Nat} {e : TypeId} {size : Nat} {v : Value} {n : Nat} {xs : List Value} (h : w.ownsRow base e size v n xs) (hs : ∀ k, v.ownBlock = some k → w'.heap[k]? = w.heap[k]?) : w'.ownsRow base e size v n xs := by
  obtain ⟨h1, ⟨rfl, h2⟩ | ⟨g, cap, cur, rfl, h3⟩⟩ := h
  · exact ⟨h1, .inl ⟨rfl, h2⟩⟩
  · exact ⟨h1, .inr ⟨g, cap, cur, rfl, h3.1, by rw [hs g rfl]; exact h3.2.1, h3.2.2⟩⟩

theorem two_cells {w : World} {B : Nat} {a b : Value} {t : TypeId} (h : w.heap[B]? = some (.cells #[a, b] t (0, 0))) :
    w.cell? ⟨B, 0, none⟩ = some a ∧ w.cell? ⟨B, 1, none⟩ = some b ∧ ∀ j, w.frozen? ⟨B, j, none⟩ = false :=
  ⟨by rw [cell_of_row _ _ _ _ _ _ h]; rfl, by rw [cell_of_row _ _ _ _ _ _ h]; rfl, fun j => frozen_of_row _ _ _ _ _ h⟩

theorem grow_two {w w1 : World} {B : Nat} {o : Obj} {x : Obj} {v : Value} {r : Option Nat} (h : w.heap[B]? = some x) (hg : (w.alloc o).grownBy w1 v.ownBlock) (hr : v.ownBlock = r) (hne : r ≠ some B) : w1.heap[B]? = some x := by
  have hl : B < w.heap.size := by
    rcases Nat.lt_or_ge B w.heap.size with h2 | h2
    · exact h2
    · rw [Array.getElem?_eq_none h2] at h; cases h
  rw [hg.block B (by simp; omega) (by rw [hr]; exact fun e => hne e.symm), Below.heap_alloc _ _ _ hl]; exact h

/-- What a bit leaves: the field's value and the row's bytes, laid together. -/
theorem wr_mk {w' : World} {B g cap : Nat} {L : List Bool} {b : Bool} (hB : w'.heap[B]? = some (.cells #[.slice (some ⟨g, 0, none⟩) (Bt.pack (L ++ [b])).length cap, .int .i64 ((L.length : Int) + 1)] 151 (0, 0)))
    (hown : w'.ownsRow 0 5 1 (.slice (some ⟨g, 0, none⟩) (Bt.pack (L ++ [b])).length cap) (Bt.pack (L ++ [b])).length ((Bt.pack (L ++ [b])).map f8)) (hne : g ≠ B) : Wr w' B (some g) (L ++ [b]) :=
  ⟨⟨_, by rw [hB]; simp, hown, rfl⟩, by simpa using hne⟩

theorem W8_or (x y : UInt8) : bits .or .u8 (W8 x) (W8 y) = W8 (x ||| y) := by
  show IntKind.u8.wrap ((BitVec.ofInt 8 (W8 x) ||| BitVec.ofInt 8 (W8 y)).toNat : Int) = _
  rw [W8_ofInt, W8_ofInt, IntKind.wrap_u8', ← UInt8.toBitVec_or]
  have := (x ||| y).toNat_lt
  show (((x ||| y).toNat : Int) % 256) = ((x ||| y).toNat : Int)
  omega
theorem or_top (y : UInt8) (r : Nat) (hr : r < 8) : bits .or .u8 (W8 y) (128 / 2 ^ r) = W8 (y ||| Bt.top r) := by
  have e : (128 / 2 ^ r : Int) = W8 (Bt.top r) := by
    have : ∀ r : Fin 8, (128 / 2 ^ r.val : Int) = W8 (Bt.top r.val) := by decide
    exact this ⟨r, hr⟩
  rw [e, W8_or]

set_option maxRecDepth 100000 in
theorem bit_any (w : World) (B : Nat) (r : Option Nat) (L : List Bool) (b : Bool) (h : Wr w B r L) (hL : L.length < 1099511627776) :
    Calls Tryd.prog 77 #[.pointer (some ⟨B, 0, none⟩), .bool b] w fun e w' => e = .returned (.tuple #[]) ∧ ∃ r', Wr w' B r' (L ++ [b]) ∧ Gro B r w w' ∧ Anew w r r' := by
  obtain ⟨⟨v, hB, hown, hr⟩, hne⟩ := h
  obtain ⟨i0, hi0, hz0, hz1, hz2⟩ := info_parts info5
  have c0 : w.cell? ⟨B, 0, none⟩ = some v := by rw [cell_of_row _ _ _ _ _ _ hB]; rfl
  have c1 : w.cell? ⟨B, 1, none⟩ = some (.int .i64 (L.length : Int)) := by rw [cell_of_row _ _ _ _ _ _ hB]; rfl
  have fz : ∀ j, w.frozen? ⟨B, j, none⟩ = false := fun j => frozen_of_row _ _ _ _ _ hB
  have hBl := block_lt_of_cell c0
  have HB := Lib.hid hB
  have HO := Lib.hid hown
  have hpl := Bt.pack_len L
  clear hB hown
  have hlen : (Bt.pack L).length < 1099511627776 := by omega
  generalize hl : (if L.length % 8 = 0 then Bt.pack L ++ [0] else Bt.pack L) = l
  have hll : L.length / 8 < l.length ∧ l.length < 1099511627776 := by
    rw [← hl]; split
    · rw [List.length_append]; simp; omega
    · omega
  have hdec : ((((L.length : Int) % 8) == 0) = true ∧ L.length % 8 = 0) ∨ ((((L.length : Int) % 8) == 0) = false ∧ ¬ L.length % 8 = 0) := by
    by_cases hn : L.length % 8 = 0
    · left; exact ⟨by simp; omega, hn⟩
    · right; exact ⟨by simp; omega, hn⟩
  have HL0 := Lib.hid hl
  clear hl hpl
  go_enter Tryd.func77, Tryd.ntmps77
  go_upto_if 9 with fail
  go_cut [] (fun wx => ∃ g cap, wx.heap[B]? = some (.cells #[.slice (some ⟨g, 0, none⟩) l.length cap, .int .i64 (L.length : Int)] 151 (0, 0)) ∧
    wx.ownsRow 0 5 1 (.slice (some ⟨g, 0, none⟩) l.length cap) l.length (l.map f8) ∧ g ≠ B ∧ Gro B r w wx ∧ Anew w r (some g))
  case first =>
    rcases hdec with ⟨ht, hn⟩ | ⟨ht, hn⟩
    · have HN := Lib.hid hn
      clear hn
      go_wp2_with (at_builtin; refine wpList_append_lies _ rfl (.tmp 14) (.tmp 15) 71 rfl 0 5 i0 (.int .u8 0) 1 1 Tryd.underlying71 hi0 hz0 hz1 hz2 rfl (by decide) v (Bt.pack L).length _ rfl (HO.out.alloc _) ⟨w.heap.size, 0, none⟩ 1 1 [.int .u8 0] rfl rfl (news_alloc w [.int .u8 0] 5) (by simp [Value.oneCell']) (by omega) (by unfold maxLen; omega) (by omega) (Nat.zero_le _) _ rfl ?_; intro g cap w1 hown1 hgrow1 hg hgl; have hB1 := grow_two HB.out hgrow1 hr hne; obtain ⟨d0, d1, dz⟩ := two_cells hB1; have HG := Lib.hid hg; have HB1 := Lib.hid hB1; clear hg hB1)
      go_meet
      case rel =>
        have el : l = Bt.pack L ++ [0] := by rw [← HL0.out, if_pos HN.out]
        have el2 : l.length = (Bt.pack L).length + 1 := by rw [el]; simp
        have hgB : g ≠ B := by
          intro e; subst e
          rcases HG.out with e | e
          · exact hne (hr.symm.trans e)
          · simp at e; omega
        refine ⟨g, cap, ?_, ?_, hgB, ?_, ?_⟩
        · rw [el2, heap_setCell_same _ _ _ _ _ _ HB1.out]; rfl
        · rw [el2, el, List.map_append]
          exact own_of_same hown1 (fun k hk => heap_setCell_other _ _ _ _ (by injection hk with hk; exact fun e => hgB (hk.trans e)))
        · refine ⟨hgrow1.os, hgrow1.tape, hgrow1.output, ?_, fun k hk h1 h2 => ?_⟩
          · have := hgrow1.size; simp at this ⊢; omega
          · rw [heap_setCell_other _ _ _ _ h1, hgrow1.block k (by simp; omega) (by rw [hr]; exact h2), Below.heap_alloc _ _ _ hk]
        · intro k hk
          injection hk with hk; subst hk
          rcases HG.out with e | e
          · exact .inl (hr.symm.trans e)
          · right; simp at e; omega
    · go_wp2
      go_meet
      case rel =>
        have el : l = Bt.pack L := by rw [← HL0.out, if_neg hn]
        obtain ⟨g, cap, rfl, _, _⟩ := own_shape HO.out (by rw [← el]; omega)
        have hr' : r = some g := hr.symm
        subst hr'
        subst el
        exact ⟨g, cap, HB.out, HO.out, fun e => hne (by rw [e]), Gro.refl _ _ _, Anew.refl _ _⟩
  case rest =>
    obtain ⟨g, cap, hB2, hown2, hg, hgr, hanew⟩ := hcut
    obtain ⟨d0, d1, dz⟩ := two_cells hB2
    have hsn := Bt.pack_snoc L b
    rw [HL0.out] at hsn
    have HB2 := Lib.hid hB2
    have HO2 := Lib.hid hown2
    have HS := Lib.hid hsn
    have hgB := Lib.hid hg
    clear hsn hB2 hdec HL0 HB HO c0 c1 fz
    have hcell : wc.cell? ⟨g, L.length / 8, none⟩ = some (.int .u8 (W8 (l.getD (L.length / 8) 0))) := by
      rw [hown2.cellAt _ (by omega)]
      simp [List.getD, hll.1]; rfl
    have hfz := hown2.frozenAt (L.length / 8)
    clear hown2
    have h8 := W8_lt (l.getD (L.length / 8) 0)
    generalize hy : l.getD (L.length / 8) 0 = y at *
    have HY := Lib.hid hy
    clear hy
    have hm8 : L.length % 8 < 8 := Nat.mod_lt _ (by omega)
    cases b
    · go_wp2
      go_end0
      have hp : Bt.pack (L ++ [false]) = l := by rw [HS.out]; simp
      refine ⟨rfl, some g, wr_mk (cap := cap) ?_ ?_ hgB.out, ?_, hanew⟩
      · rw [hp, heap_setCell_same _ _ _ _ _ _ HB2.out]; rfl
      · rw [hp]
        exact own_of_same (w := wc) HO2.out (fun k hk => heap_setCell_other _ _ _ _ (by injection hk with hk; exact fun e => hgB.out (hk.trans e)))
      · exact ⟨hgr.os, hgr.tape, hgr.output, by simpa using hgr.size, fun k hk h1 h2 => (heap_setCell_other _ _ _ _ h1).trans (hgr.block k hk h1 h2)⟩
    · go_wp2
      go_region
      all_goals go_wp2
      all_goals go_end0
      have hp : Bt.pack (L ++ [true]) = l.set (L.length / 8) (y ||| Bt.top (L.length % 8)) := by rw [HS.out, HY.out]; simp
      have hst := HO2.out.stored (L.length / 8) (.int .u8 (W8 (y ||| Bt.top (L.length % 8))))
      rw [or_top y _ hm8]
      refine ⟨rfl, some g, wr_mk (cap := cap) ?_ ?_ hgB.out, ?_, hanew⟩
      · have h1 : (wc.setCell ⟨g, L.length / 8, none⟩ (.int .u8 (W8 (y ||| Bt.top (L.length % 8))))).heap[B]? = some (.cells #[.slice (some ⟨g, 0, none⟩) l.length cap, .int .i64 (L.length : Int)] 151 (0, 0)) := by
          rw [heap_setCell_other _ _ _ _ (fun e => hgB.out e.symm)]; exact HB2.out
        rw [heap_drew, hp, List.length_set, heap_setCell_same _ _ _ _ _ _ h1]; rfl
      · rw [hp, List.length_set, List.map_set]
        exact own_of_same hst.1 (fun k hk => heap_setCell_other _ _ _ _ (by injection hk with hk; exact fun e => hgB.out (hk.trans e)))
      · refine ⟨hgr.os, hgr.tape, hgr.output, by simpa using hgr.size, fun k hk h1 h2 => ?_⟩
        rw [heap_drew, heap_setCell_other _ _ _ _ h1]
        by_cases e : k = g
        · subst e
          rcases hanew k rfl with e2 | e2
          · exact absurd e2.symm h2
          · omega
        · rw [heap_setCell_other _ _ _ _ e]; exact hgr.block k hk h1 h2
end Go.Proofs.YtepjpdhmjchakaaDoor
