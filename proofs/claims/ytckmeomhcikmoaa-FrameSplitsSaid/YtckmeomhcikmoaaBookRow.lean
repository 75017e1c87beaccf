/- Lists of rows are put into the book. -/
import Derived.Test.YtckmeomhcikmoaaOwnBook
import Derived.Test.YtckmeomhcikmoaaFrKnown
namespace Go.Proofs.Ytckmeomhcikmoaa
open Go.RowKit
set_option maxRecDepth 100000
set_option maxHeartbeats 4000000

theorem own_block_ne {w : World} {base : Nat} {e : TypeId} {s : Nat} {v : Value} {n : Nat} {xs : List Value} (h : w.ownsRow base e s v n xs) {B : Nat} {cs : Array Value} {t : TypeId} {fr : Nat × Nat} (hB : w.heap[B]? = some (.cells cs t fr)) (hne : e ≠ t) : v.ownBlock ≠ some B := by
  intro e1
  obtain ⟨_, ⟨rfl, _⟩ | ⟨g, c, cur, rfl, _, hh, _⟩⟩ := h
  · cases e1
  · have e2 : g = B := by injection e1
    rw [e2, hB] at hh
    injection hh with hh
    injection hh with _ hh
    exact hne hh.symm
theorem heap_lt2 {w : World} {B : Nat} {o : Obj} (h : w.heap[B]? = some o) : B < w.heap.size := by
  rcases Nat.lt_or_ge B w.heap.size with h2 | h2
  · exact h2
  · rw [Array.getElem?_eq_none h2] at h; cases h
theorem Apt.snoc {vs : List Value} {v : Value} (h : Apt vs) (hv : ∀ u ∈ vs, ∀ k, u.ownBlock = some k → v.ownBlock ≠ some k) : Apt (vs ++ [v]) := by
  have last : ∀ (j : Nat) (u : Value), (vs ++ [v])[j]? = some u → (vs[j]? = some u ∧ j < vs.length) ∨ (j = vs.length ∧ u = v) := by
    intro j u hu
    by_cases hj : j < vs.length
    · rw [List.getElem?_append_left hj] at hu; exact .inl ⟨hu, hj⟩
    · rw [List.getElem?_append_right (by omega)] at hu
      rcases Nat.eq_zero_or_pos (j - vs.length) with h0 | h0
      · rw [h0] at hu; simp at hu; exact .inr ⟨by omega, hu.symm⟩
      · rw [List.getElem?_eq_none (by simp; omega)] at hu; cases hu
  intro i j a b ha hb hij k hk hk2
  rcases last i a ha with ⟨h1, _⟩ | ⟨h1, rfl⟩
  · rcases last j b hb with ⟨h2, _⟩ | ⟨h2, rfl⟩
    · exact h i j a b h1 h2 hij k hk hk2
    · exact hv a (List.mem_of_getElem? h1) k hk hk2
  · rcases last j b hb with ⟨h2, _⟩ | ⟨h2, rfl⟩
    · exact hv b (List.mem_of_getElem? h2) k hk2 hk
    · omega

/-- The book, its lists' lengths below a bound; its list of bytes lies apart from the rows. -/
structure Bo (w : World) (base B : Nat) (vb : Value) (vs : List Value) (vr : Value) (us : List Value) : Prop where
  book : ∃ ln lm : Nat → Nat, Book w base B vb vs ln vr us lm ∧ (∀ j, ln j ≤ 1000000000) ∧ ∀ j, lm j ≤ 1000000000
  sep : ∀ u ∈ us, ∀ k, u.ownBlock = some k → vb.ownBlock ≠ some k
/-- What may have turned: the book's own cells, its two lists. -/
structure Gr3 (B : Nat) (r s : Option Nat) (w w' : World) : Prop where
  os : w'.os = w.os
  tape : w'.tape = w.tape
  output : w'.output = w.output
  size : w.heap.size ≤ w'.heap.size
  block : ∀ k, k < w.heap.size → k ≠ B → some k ≠ r → some k ≠ s → w'.heap[k]? = w.heap[k]?
def Anew (w : World) (r r' : Option Nat) : Prop := ∀ k, r' = some k → r = some k ∨ w.heap.size ≤ k
theorem Anew.trans {a b : World} {r r' r'' : Option Nat} (h : Anew a r r') (k : Anew b r' r'') (hs : a.heap.size ≤ b.heap.size) : Anew a r r'' := fun i hi => by
  rcases k i hi with e | e
  · exact h i e
  · exact .inr (Nat.le_trans hs e)
theorem Gr3.trans {B : Nat} {r s r' s' : Option Nat} {a b c : World} (h : Gr3 B r s a b) (k : Gr3 B r' s' b c) (hr : Anew a r r') (hs : Anew a s s') : Gr3 B r s a c :=
  ⟨k.os.trans h.os, k.tape.trans h.tape, k.output.trans h.output, Nat.le_trans h.size k.size, fun i hi h1 h2 h3 =>
    (k.block i (Nat.lt_of_lt_of_le hi h.size) h1 (fun e => by rcases hr i e.symm with e2 | e2; exact h2 e2.symm; omega) (fun e => by rcases hs i e.symm with e2 | e2; exact h3 e2.symm; omega)).trans (h.block i hi h1 h2 h3)⟩
theorem Gr3.kept {B : Nat} {r s : Option Nat} {w w' : World} (g : Gr3 B r s w w') {base : Nat} {e : TypeId} {size : Nat} {v : Value} {n : Nat} {xs : List Value} (h : w.ownsRow base e size v n xs) (h1 : v.ownBlock ≠ some B) (h2 : ∀ k, r = some k → v.ownBlock ≠ some k) (h3 : ∀ k, s = some k → v.ownBlock ≠ some k) : w'.ownsRow base e size v n xs :=
  own_of_same h (fun k hk => g.block k (h.lt k hk).2 (fun e => h1 (by rw [hk, e])) (fun e => h2 k e.symm hk) (fun e => h3 k e.symm hk))
theorem Gr3.below {B C : Nat} {r s : Option Nat} {w w' : World} (h : Gr3 B r s w w') (hB : C ≤ w.heap.size) (hp : C ≤ B) (hr : ∀ k, r = some k → C ≤ k) (hs : ∀ k, s = some k → C ≤ k) : Below C w w' :=
  ⟨h.os, h.tape, h.output, h.size, fun k hk => h.block k (by omega) (by omega) (fun e => by have := hr k e.symm; omega) (fun e => by have := hs k e.symm; omega)⟩

theorem bookBytes_any (w : World) (base B : Nat) (vb : Value) (vs : List Value) (vr : Value) (us : List Value) (v : Value) (n : Nat) (xs : List Value) (h : Bo w base B vb vs vr us) (hv : w.ownsRow base 5 1 v n xs) (hn : n ≤ 1000000000)
    (hfr : ∀ u ∈ vs, ∀ k, u.ownBlock = some k → v.ownBlock ≠ some k) (hN : vs.length < 1000000000) (hb : base ≤ w.heap.size) :
    Calls Try.prog 36 #[.pointer (some ⟨B, 0, none⟩), v] w fun e w' => e = .returned (.tuple #[]) ∧ ∃ vb', Bo w' base B vb' (vs ++ [v]) vr us ∧ Gr3 B vb.ownBlock none w w' ∧ Anew w vb.ownBlock vb'.ownBlock := by
  obtain ⟨⟨ln, lm, h, hln, hlm⟩, hsep⟩ := h
  obtain ⟨i1, hi1, hy0, hy1, hy2⟩ := info_parts info23b
  have c0 := (book_cells h.cell).1
  have hBl := heap_lt2 h.cell
  have hvbB := own_block_ne h.bytes.row h.cell (by decide)
  obtain ⟨av, cv, rfl⟩ := own_slice hv
  have HB := Lib.hid h
  have HV := Lib.hid hv
  have HS := Lib.hid hsep
  have HLN := Lib.hid hln
  have HLM := Lib.hid hlm
  clear h hv hsep hln hlm
  go_enter Try.func36, Try.ntmps36
  go_wp2_with (at_builtin; refine wpList_append_stay _ rfl (.tmp 8) (.tmp 10) 30 rfl base 23 i1 (.slice none 0 0) 24 und30 hi1 hy0 hy1 hy2 rfl vb vs.length _ rfl (HB.out.bytes.row.alloc _) ⟨w.heap.size, 0, none⟩ 1 (.slice av n cv) rfl (news_alloc w [.slice av n cv] 23) rfl (by unfold maxLen; omega) (by omega) (by simp; omega) ?_; intro g cap w1 hown1 hst1 hgl; have hcell1 := (hst1.grown.block B (by simp; omega) (fun e => hvbB e.symm)).trans ((Below.heap_alloc w _ B hBl).trans HB.out.cell); have d0 := (book_cells hcell1).1; have dz : w1.frozen? ⟨B, 0, none⟩ = false := frozen_of_row _ _ _ _ _ hcell1; have HO1 := Lib.hid hown1; have HS1 := Lib.hid hst1; have HC1 := Lib.hid hcell1; clear hown1 hst1 hcell1 hgl)
  go_end0
  have hgr := grown_alloc HS1.out.grown
  have hgB : g ≠ B := fun e => own_block_ne HO1.out HC1.out (by decide) (by rw [e]; rfl)
  have hgrow : Gr3 B vb.ownBlock none w (w1.setCell ⟨B, 0, none⟩ (.slice (some ⟨g, 0, none⟩) (vs.length + 1) cap)) := by
    refine ⟨hgr.os, hgr.tape, hgr.output, by simpa using hgr.size, fun k hk h1 h2 _ => ?_⟩
    rw [heap_setCell_other _ _ _ _ h1]
    exact hgr.block k hk h2
  have hanew : Anew w vb.ownBlock (Value.ownBlock (.slice (some ⟨g, 0, none⟩) (vs.length + 1) cap)) := by
    intro k hk
    injection hk with hk
    have hk2 : g = k := hk
    rcases HS1.out with ⟨h1, _⟩ | ⟨h1, _⟩
    · left; rw [h1]; exact congrArg some hk2
    · right; rw [← hk2, h1]; simp
  have key : ∀ {e : TypeId} {u : Value} {m : Nat} {zs : List Value}, w.ownsRow base e 1 u m zs → e ≠ 72 → (∀ k, vb.ownBlock = some k → u.ownBlock ≠ some k) → (w1.setCell ⟨B, 0, none⟩ (.slice (some ⟨g, 0, none⟩) (vs.length + 1) cap)).ownsRow base e 1 u m zs :=
    fun hu h1 h2 => hgrow.kept hu (own_block_ne hu HB.out.cell h1) h2 (fun k hk => by cases hk)
  have by5 : ∀ {e : TypeId} {u : Value} {m : Nat} {zs : List Value}, w.ownsRow base e 1 u m zs → e ≠ 23 → ∀ k, vb.ownBlock = some k → u.ownBlock ≠ some k := fun hu h1 k hk hk2 => own_apart hu HB.out.bytes.row h1 k hk2 hk
  have hown2 : (w1.setCell ⟨B, 0, none⟩ (.slice (some ⟨g, 0, none⟩) (vs.length + 1) cap)).ownsRow base 23 1 (.slice (some ⟨g, 0, none⟩) (vs.length + 1) cap) (vs.length + 1) (vs ++ [.slice av n cv]) :=
    own_of_same HO1.out (fun k hk => heap_setCell_other _ _ _ _ (by injection hk with hk; exact fun e => hgB (hk.trans e)))
  refine ⟨rfl, .slice (some ⟨g, 0, none⟩) (vs.length + 1) cap, ⟨⟨fun j => if j = vs.length then n else ln j, lm, ⟨?_, ?_, ?_, HB.out.apt.snoc hfr, HB.out.aptr⟩, fun j => ?_, HLM.out⟩, fun u hu k hk e1 => ?_⟩, hgrow, hanew⟩
  · rw [heap_setCell_same _ _ _ _ _ _ HC1.out]; rfl
  · refine Bk.start (by rw [List.length_append]; exact hown2) (fun j u hu => ?_)
    by_cases hj : j < vs.length
    · rw [List.getElem?_append_left hj] at hu
      obtain ⟨zs, hz, _⟩ := HB.out.bytes.rows j u hu
      refine ⟨zs, ?_⟩
      rw [if_neg (by omega)]
      exact key hz (by decide) (by5 hz (by decide))
    · rw [List.getElem?_append_right (by omega)] at hu
      rcases Nat.eq_zero_or_pos (j - vs.length) with h0 | h0
      · rw [h0] at hu
        simp at hu
        subst hu
        refine ⟨xs, ?_⟩
        rw [if_pos (by omega)]
        exact key HV.out (by decide) (by5 HV.out (by decide))
      · rw [List.getElem?_eq_none (by simp; omega)] at hu; cases hu
  · exact Bk.start (key HB.out.rows.row (by decide) (by5 HB.out.rows.row (by decide))) (fun j u hu => by obtain ⟨zs, hz, _⟩ := HB.out.rows.rows j u hu; exact ⟨zs, key hz (by decide) (fun k hk hk2 => HS.out u (List.mem_of_getElem? hu) k hk2 hk)⟩)
  · dsimp only
    split
    · exact hn
    · exact HLN.out j
  · rcases hanew k e1 with e2 | e2
    · exact HS.out u hu k hk e2
    · obtain ⟨j, hj⟩ := List.getElem?_of_mem hu
      obtain ⟨zs, hz, _⟩ := HB.out.rows.rows j u hj
      have := (hz.lt k hk).2
      omega

/-- A list of rows is put into the book, its rows too. -/
theorem bookRows_any (w : World) (base bF B : Nat) (vb : Value) (vs : List Value) (vr : Value) (us : List Value) (u : Value) (xs : List Value) (rows : List (List UInt8)) (h : Bo w base B vb vs vr us) (hu : ORow w bF u xs rows) (hbF : base ≤ bF) (hbw : bF ≤ w.heap.size)
    (hf1 : ∀ x ∈ vs, ∀ k, x.ownBlock = some k → k < bF) (hf2 : ∀ x ∈ us, ∀ k, x.ownBlock = some k → k < bF) (hf3 : vb.ownBlock ≠ u.ownBlock ∨ u.ownBlock = none) (hN : vs.length + rows.length < 1000000000) (hM : us.length < 1000000000) (hr : ∀ r ∈ rows, r.length ≤ 1000000000) :
    Calls Try.prog 22 #[.pointer (some ⟨B, 0, none⟩), u] w fun e w' => e = .returned (.tuple #[]) ∧ ∃ vb' vr', Bo w' base B vb' (vs ++ xs) vr' (us ++ [u]) ∧ Gr3 B vb.ownBlock vr.ownBlock w w' ∧ Anew w vb.ownBlock vb'.ownBlock ∧ Anew w vr.ownBlock vr'.ownBlock := by
  obtain ⟨⟨ln, lm, h, hln, hlm⟩, hsep⟩ := h
  obtain ⟨i1, hi1, hy0, hy1, hy2⟩ := info_parts info30
  have c18 := (book_cells h.cell).2.2.2.2.2.2.2.2.2.2.2.2.2.2.2.2.2.2.1
  have hBl := heap_lt2 h.cell
  have hvrB := own_block_ne h.rows.row h.cell (by decide)
  have hxl := hu.len
  obtain ⟨au, cu, rfl⟩ := own_slice hu.row
  have HB := Lib.hid h
  have HU := Lib.hid hu
  have HS := Lib.hid hsep
  have HLN := Lib.hid hln
  have HLM := Lib.hid hlm
  have HXL := Lib.hid hxl
  have HF1 := Lib.hid hf1
  have HF2 := Lib.hid hf2
  have HF3 := Lib.hid hf3
  have HRR := Lib.hid hr
  clear h hu hsep hln hlm hxl hf1 hf2 hf3 hr
  go_enter Try.func22, Try.ntmps22
  go_wp2_with (at_builtin; refine wpList_append_stay _ rfl (.tmp 9) (.tmp 11) 57 rfl base 30 i1 (.slice none 0 0) 24 und57 hi1 hy0 hy1 hy2 rfl vr us.length _ rfl (HB.out.rows.row.alloc _) ⟨w.heap.size, 0, none⟩ 1 (.slice au xs.length cu) rfl (news_alloc w [.slice au xs.length cu] 30) rfl (by unfold maxLen; omega) (by omega) (by simp; omega) ?_; intro g cap w1 hown1 hst1 hgl; have hcell1 := (hst1.grown.block B (by simp; omega) (fun e => hvrB e.symm)).trans ((Below.heap_alloc w _ B hBl).trans HB.out.cell); have d0 := (book_cells hcell1).2.2.2.2.2.2.2.2.2.2.2.2.2.2.2.2.2.2.1; have dz : w1.frozen? ⟨B, 18, none⟩ = false := frozen_of_row _ _ _ _ _ hcell1; have HO1 := Lib.hid hown1; have HS1 := Lib.hid hst1; have HC1 := Lib.hid hcell1; clear hown1 hst1 hcell1 hgl)
  have hgr := grown_alloc HS1.out.grown
  have hgB : g ≠ B := fun e => own_block_ne HO1.out HC1.out (by decide) (by rw [e]; rfl)
  have hgrow : Gr3 B vb.ownBlock vr.ownBlock w (w1.setCell ⟨B, 18, none⟩ (.slice (some ⟨g, 0, none⟩) (us.length + 1) cap)) := by
    refine ⟨hgr.os, hgr.tape, hgr.output, by simpa using hgr.size, fun k hk h1 _ h2 => ?_⟩
    rw [heap_setCell_other _ _ _ _ h1]
    exact hgr.block k hk h2
  have hgrow2 : Gr3 B none vr.ownBlock w (w1.setCell ⟨B, 18, none⟩ (.slice (some ⟨g, 0, none⟩) (us.length + 1) cap)) := by
    refine ⟨hgr.os, hgr.tape, hgr.output, by simpa using hgr.size, fun k hk h1 _ h2 => ?_⟩
    rw [heap_setCell_other _ _ _ _ h1]
    exact hgr.block k hk h2
  have hanew : Anew w vr.ownBlock (Value.ownBlock (.slice (some ⟨g, 0, none⟩) (us.length + 1) cap)) := by
    intro k hk
    injection hk with hk
    have hk2 : g = k := hk
    rcases HS1.out with ⟨h1, _⟩ | ⟨h1, _⟩
    · left; rw [h1]; exact congrArg some hk2
    · right; rw [← hk2, h1]; simp
  have key : ∀ {b0 : Nat} {e : TypeId} {u : Value} {m : Nat} {zs : List Value}, w.ownsRow b0 e 1 u m zs → e ≠ 72 → e ≠ 30 → (w1.setCell ⟨B, 18, none⟩ (.slice (some ⟨g, 0, none⟩) (us.length + 1) cap)).ownsRow b0 e 1 u m zs :=
    fun hu h1 h2 => hgrow2.kept hu (own_block_ne hu HB.out.cell h1) (fun k hk => by cases hk) (fun k hk hk2 => own_apart hu HB.out.rows.row h2 k hk2 hk)
  have hown2 : (w1.setCell ⟨B, 18, none⟩ (.slice (some ⟨g, 0, none⟩) (us.length + 1) cap)).ownsRow base 30 1 (.slice (some ⟨g, 0, none⟩) (us.length + 1) cap) (us.length + 1) (us ++ [.slice au xs.length cu]) :=
    own_of_same HO1.out (fun k hk => heap_setCell_other _ _ _ _ (by injection hk with hk; exact fun e => hgB (hk.trans e)))
  have hrow2 : ORow (w1.setCell ⟨B, 18, none⟩ (.slice (some ⟨g, 0, none⟩) (us.length + 1) cap)) bF (.slice au xs.length cu) xs rows :=
    ⟨key HU.out.row (by decide) (by decide), HU.out.len, fun i x r hx hq => key (HU.out.each i x r hx hq) (by decide) (by decide), HU.out.apt⟩
  have hbo : Bo (w1.setCell ⟨B, 18, none⟩ (.slice (some ⟨g, 0, none⟩) (us.length + 1) cap)) base B vb vs (.slice (some ⟨g, 0, none⟩) (us.length + 1) cap) (us ++ [.slice au xs.length cu]) := by
    refine ⟨⟨ln, fun j => if j = us.length then xs.length else lm j, ⟨?_, ?_, ?_, HB.out.apt, HB.out.aptr.snoc (fun x hx k hk e1 => ?_)⟩, HLN.out, fun j => ?_⟩, fun x hx k hk e1 => ?_⟩
    · rw [heap_setCell_same _ _ _ _ _ _ HC1.out]; rfl
    · exact Bk.start (key HB.out.bytes.row (by decide) (by decide)) (fun j x hx => by obtain ⟨zs, hz, _⟩ := HB.out.bytes.rows j x hx; exact ⟨zs, key hz (by decide) (by decide)⟩)
    · refine Bk.start (by rw [List.length_append]; exact hown2) (fun j x hx => ?_)
      by_cases hj : j < us.length
      · rw [List.getElem?_append_left hj] at hx
        obtain ⟨zs, hz, _⟩ := HB.out.rows.rows j x hx
        refine ⟨zs, ?_⟩
        rw [if_neg (by omega)]
        exact key hz (by decide) (by decide)
      · rw [List.getElem?_append_right (by omega)] at hx
        rcases Nat.eq_zero_or_pos (j - us.length) with h0 | h0
        · rw [h0] at hx
          simp at hx
          subst hx
          refine ⟨xs, ?_⟩
          rw [if_pos (by omega)]
          exact own_mono hrow2.row hbF
        · rw [List.getElem?_eq_none (by simp; omega)] at hx; cases hx
    · have h1 := HF2.out x hx k hk
      have h2 := (HU.out.row.lt k e1).1
      omega
    · dsimp only
      split
      · have := HXL.out; omega
      · exact HLM.out j
    · rcases List.mem_append.1 hx with hx | hx
      · exact HS.out x hx k hk e1
      · rw [List.mem_singleton] at hx
        subst hx
        rcases HF3.out with h3 | h3
        · exact h3 (by rw [e1, hk])
        · rw [h3] at hk; cases hk
  have HBO := Lib.hid hbo
  have HROW := Lib.hid hrow2
  have HGR := Lib.hid hgrow
  have HAN := Lib.hid hanew
  obtain ⟨W2, hW2⟩ : ∃ W2, W2 = w1.setCell ⟨B, 18, none⟩ (.slice (some ⟨g, 0, none⟩) (us.length + 1) cap) := ⟨_, rfl⟩
  rw [← hW2] at HBO HROW HGR
  rw [← hW2]
  obtain ⟨VR, hVR⟩ : ∃ VR, VR = Value.slice (some ⟨g, 0, none⟩) (us.length + 1) cap := ⟨_, rfl⟩
  rw [← hVR] at HBO HAN
  clear hbo hrow2 hgrow hgrow2 hanew key hown2 hgB hgr hW2 hVR d0 dz c18
  have hsz2 := HGR.out.size
  go_loopw [4] (fun i wr => ∃ (k : Nat) (vb' : Value), k ≤ rows.length ∧ i = .int .i64 k ∧ Bo wr base B vb' (vs ++ xs.take k) VR (us ++ [.slice au xs.length cu]) ∧ ORow wr bF (.slice au xs.length cu) xs rows ∧ Gr3 B vb.ownBlock vr.ownBlock w wr ∧ Anew w vb.ownBlock vb'.ownBlock) (fun i _ => rows.length - (intOf i).toNat)
  case atStart => exact ⟨0, vb, Nat.zero_le _, rfl, by rw [List.take_zero, List.append_nil]; exact HBO.out, HROW.out, HGR.out, fun k hk => .inl hk⟩
  case round =>
    obtain ⟨k, vb', hk, rfl, hbo, hrow, hgr, han⟩ := hrel
    have HBO2 := Lib.hid hbo
    have HROW2 := Lib.hid hrow
    have HGR2 := Lib.hid hgr
    have HAN2 := Lib.hid han
    have hsz := hgr.size
    clear hbo hrow hgr han
    by_cases hlt : k < rows.length
    · have hlt' : k < xs.length := by rw [HXL.out]; exact hlt
      obtain ⟨gu, cu', hue, _, _⟩ := own_shape HROW2.out.row (by omega)
      injection hue with e1 _ e2
      subst e1 e2
      have hc1 : wr.cell? ⟨gu, k, none⟩ = some xs[k] := (HROW2.out.row.cellAt k (by omega)).trans (List.getElem?_eq_getElem hlt')
      obtain ⟨x, hx⟩ : ∃ x, x = xs[k] := ⟨_, rfl⟩
      rw [← hx] at hc1
      have hxo := HROW2.out.each k x rows[k] (by rw [hx]; exact List.getElem?_eq_getElem hlt') (List.getElem?_eq_getElem hlt)
      have HXO := Lib.hid (own_mono hxo hbF)
      have HXO2 := Lib.hid hxo
      have HX := Lib.hid hx
      have hrl := HRR.out rows[k] (List.getElem_mem hlt)
      have j1 : (0 : Int) ≤ (k : Int) ∧ (k : Int) < (xs.length : Int) := by omega
      have htl : (vs ++ xs.take k).length < 1000000000 := by rw [List.length_append, List.length_take]; omega
      have hfr : ∀ y ∈ vs ++ xs.take k, ∀ q, y.ownBlock = some q → x.ownBlock ≠ some q := fun y hy q hq e1 => by
        rcases List.mem_append.1 hy with hy | hy
        · have h1 := HF1.out y hy q hq
          have h2 := (HXO2.out.lt q e1).1
          omega
        · obtain ⟨i, hi⟩ := List.getElem?_of_mem hy
          rw [List.getElem?_take] at hi
          by_cases hik : i < k
          · rw [if_pos hik] at hi
            exact HROW2.out.apt i k y x hi (by rw [HX.out]; exact List.getElem?_eq_getElem hlt') (by omega) q hq e1
          · rw [if_neg hik] at hi; cases hi
      have HFR := Lib.hid hfr
      clear hx hxo hfr
      go_wp2_with (go_at_call 36; refine Calls.mono (bookBytes_any wr base B vb' (vs ++ xs.take k) VR _ x rows[k].length _ HBO2.out HXO.out hrl HFR.out htl (by omega)) ?_; rintro e w3 ⟨rfl, vb'', hbo3, hgr3, han3⟩)
      go_roundw
      case rel =>
        have hk3 : ∀ {e : TypeId} {y : Value} {m : Nat} {zs : List Value}, wr.ownsRow bF e 1 y m zs → e ≠ 72 → (∀ q, vb'.ownBlock = some q → y.ownBlock ≠ some q) → w3.ownsRow bF e 1 y m zs := fun hy h1 h2 => by
          obtain ⟨⟨_, _, hbk, _⟩, _⟩ := HBO2.out
          exact hgr3.kept hy (own_block_ne hy hbk.cell h1) h2 (fun q hq => by cases hq)
        refine ⟨k + 1, vb'', by omega, by go_num, ?_, ⟨hk3 HROW2.out.row (by decide) (fun q hq e1 => HBO2.out.sep _ (List.mem_append.2 (.inr (List.mem_singleton.2 rfl))) q e1 hq), HROW2.out.len, fun i y r hy hq => hk3 (HROW2.out.each i y r hy hq) (by decide) (fun q hq1 e1 => by
          obtain ⟨⟨_, _, hbk, _⟩, _⟩ := HBO2.out
          exact own_apart hbk.bytes.row (HROW2.out.each i y r hy hq) (by decide) q hq1 e1), HROW2.out.apt⟩, ?_, ?_⟩
        · rw [List.take_succ_eq_append_getElem hlt', ← List.append_assoc, ← HX.out]
          exact hbo3
        · exact HGR2.out.trans hgr3 HAN2.out (fun q hq => by cases hq)
        · exact HAN2.out.trans han3 hsz
      case measure => simp [intOf]; omega
    · have e : k = rows.length := by omega
      subst e
      have hge : ¬ (rows.length : Int) < (xs.length : Int) := by have := HXL.out; omega
      go_wp2
      go_end0
      have hb := HBO2.out
      rw [List.take_of_length_le (by rw [HXL.out]; exact Nat.le_refl _)] at hb
      exact ⟨rfl, vb', VR, hb, HGR2.out, HAN2.out, HAN.out⟩
end Go.Proofs.Ytckmeomhcikmoaa
