/- LentRows, WholeRows, SpoilRows: what they do. -/
import Derived.Test.YtckmeomhcikmoaaFrSame
import Derived.WalkSpells
namespace Go.Proofs.Ytckmeomhcikmoaa
open Go.RowKit
set_option maxRecDepth 100000
set_option maxHeartbeats 2000000

/-- The lent rows: the list at block g, each row at a block of its own, with room behind. -/
structure LR (w : World) (base g : Nat) (vs : List Value) (rows : List (List UInt8)) : Prop where
  blk : w.heap[g]? = some (.cells (vs ++ [Value.slice none 0 0]).toArray 23 (0, 0))
  len : vs.length = rows.length
  each : ∀ (i : Nat) (u : Value) (r : List UInt8), vs[i]? = some u → rows[i]? = some r → ∃ gi, u = .slice (some ⟨gi, 0, none⟩) r.length (r.length + 2) ∧ w.heap[gi]? = some (.cells (r.map f8 ++ [Value.int .u8 91, Value.int .u8 92]).toArray 5 (0, 0)) ∧ base ≤ gi
  inc : ∀ (i j : Nat) (u v : Value) (a b : Nat), vs[i]? = some u → vs[j]? = some v → u.ownBlock = some a → v.ownBlock = some b → i < j → a < b
  lo : base ≤ g

theorem heap_lt {w : World} {B : Nat} {o : Obj} (h : w.heap[B]? = some o) : B < w.heap.size := by
  rcases Nat.lt_or_ge B w.heap.size with h2 | h2
  · exact h2
  · rw [Array.getElem?_eq_none h2] at h; cases h
theorem LR.below {w w' : World} {base g B : Nat} {vs : List Value} {rows : List (List UInt8)} (h : LR w base g vs rows) (hb : Below B w w') (hB : w.heap.size ≤ B) : LR w' base g vs rows := by
  refine ⟨(hb.block g (Nat.lt_of_lt_of_le (heap_lt h.blk) hB)).trans h.blk, h.len, fun i u r hu hr => ?_, h.inc, h.lo⟩
  obtain ⟨gi, h1, h2, h3⟩ := h.each i u r hu hr
  exact ⟨gi, h1, (hb.block gi (Nat.lt_of_lt_of_le (heap_lt h2) hB)).trans h2, h3⟩
theorem LR.rws {w : World} {base g : Nat} {vs : List Value} {rows : List (List UInt8)} (h : LR w base g vs rows) (hn : rows.length ≤ 1000000) (hr : ∀ r ∈ rows, r.length ≤ 140737488355328) : Rws base w.heap.size w (.slice (some ⟨g, 0, none⟩) rows.length (rows.length + 1)) rows := by
  refine ⟨vs, h.len, ⟨some ⟨g, 0, none⟩, rows.length + 1, by rw [h.len], by rw [h.len]; omega, (fun e => by cases e), fun _ => ⟨g, 0, rfl, h.lo, heap_lt h.blk, fun j hj => ?_⟩, by rw [h.len]; omega⟩, fun i h1 h2 => ?_⟩
  · rw [cell_of_row _ _ _ _ _ _ h.blk, Nat.zero_add]
    rw [List.getElem?_toArray, List.getElem?_append_left hj, List.getElem?_eq_getElem hj]
    rfl
  · obtain ⟨gi, e, hb, hlo⟩ := h.each i _ _ (List.getElem?_eq_getElem h2) (List.getElem?_eq_getElem h1)
    rw [e]
    exact (lent_sl (hr _ (List.getElem_mem h1)) hb).mono hlo (heap_lt hb)

theorem lentRows_any (lo hi : Nat) (w : World) (v : Value) (rows : List (List UInt8)) (hv : Rws lo hi w v rows) (hn : rows.length ≤ 1000000) (hhi : hi ≤ w.heap.size) :
    Calls Try.prog 27 #[v] w fun e w' => ∃ g vs, e = .returned (.slice (some ⟨g, 0, none⟩) rows.length (rows.length + 1)) ∧ LR w' w.heap.size g vs rows ∧ Below w.heap.size w w' := by
  obtain ⟨vs0, hvl, ⟨ao, cap, rfl, hv⟩, hrows⟩ := hv
  rw [hvl]
  have HV := Lib.hid hv
  have HL := Lib.hid hvl
  have HR := Lib.hid hrows
  clear hv hvl hrows
  obtain ⟨i1, hi1, hy1, hy2, hy3⟩ := info_parts info23
  go_enter Try.func27, Try.ntmps27
  go_wp2_with (at_make; refine wpList_make_own _ rfl _ _ 30 rfl w.heap.size 23 i1 (.slice none 0 0) 1 Try.underlying30 hi1 hy1 hy2 .i64 .i64 _ (rows.length + 1) rfl rfl (by push_cast; rfl) (by rw [hy3]; omega) (by unfold maxLen; omega) (Nat.le_refl _) ?_; intro w1 hown1 hgrow1; have hb1 : Below w.heap.size w w1 := (Below.refl _ _).grown hgrow1 (Nat.le_refl _) (by intro q hq; cases hq); have hgl := (hown1.lt _ rfl).2; have HO1 := Lib.hid hown1; have HB1 := Lib.hid hb1; clear hown1 hgrow1 hb1)
  go_loopw [3, 4] (fun x i wr => ∃ (k : Nat) (vs : List Value), k ≤ rows.length ∧ i = .int .i64 k ∧ x = .slice (some ⟨w.heap.size, 0, none⟩) k (rows.length + 1) ∧ vs.length = k ∧ wr.ownsRow w.heap.size 23 1 (.slice (some ⟨w.heap.size, 0, none⟩) k (rows.length + 1)) k vs ∧
      (∀ (i : Nat) (u : Value) (r : List UInt8), vs[i]? = some u → rows[i]? = some r → ∃ gi, u = .slice (some ⟨gi, 0, none⟩) r.length (r.length + 2) ∧ wr.heap[gi]? = some (.cells (r.map f8 ++ [Value.int .u8 91, Value.int .u8 92]).toArray 5 (0, 0)) ∧ w.heap.size ≤ gi) ∧
      (∀ (i j : Nat) (u v : Value) (a b : Nat), vs[i]? = some u → vs[j]? = some v → u.ownBlock = some a → v.ownBlock = some b → i < j → a < b) ∧ Below w.heap.size w wr) (fun _ i _ => rows.length - (intOf i).toNat)
  case atStart => exact ⟨0, [], by omega, rfl, rfl, rfl, HO1.out, fun i u r hu => by simp at hu, fun i j u v a b hu => by simp at hu, HB1.out⟩
  case round =>
    obtain ⟨k, vs, hk, rfl, rfl, hvk, hown, heach, hinc, hbel⟩ := hrel
    have HE := Lib.hid heach
    have HI := Lib.hid hinc
    have HO := Lib.hid hown
    have HVK := Lib.hid hvk
    have hbs := hbel.size
    clear heach hinc hown hvk
    by_cases hlt : k < rows.length
    · have hlt' : k < vs0.length := by rw [HL.out]; exact hlt
      obtain ⟨b, off, rfl, _, hbw, hcell⟩ := HV.out.cells (by intro e; subst e; simp at hlt')
      obtain ⟨ar, capr, hvr, hsr⟩ := HR.out k hlt hlt'
      have hc1 : wr.cell? ⟨b, off + k, none⟩ = some (.slice ar rows[k].length capr) := by
        rw [hbel.cell (p := ⟨b, off + k, none⟩) (Nat.lt_of_lt_of_le hbw hhi), hcell k hlt', hvr]; rfl
      have HSR := Lib.hid (show Sl lo hi f8 wr (.slice ar rows[k].length capr) rows[k] from ⟨_, _, rfl, hsr.below hbel hhi⟩)
      obtain ⟨r, hr⟩ : ∃ r, r = rows[k] := ⟨_, rfl⟩
      rw [← hr] at hc1 HSR
      have HRR := Lib.hid hr
      clear hcell hvr hsr hr
      go_wp2_with (first
        | (at_builtin; refine wpList_append_fits _ rfl (.tmp 16) (.tmp 22) 30 rfl w.heap.size 23 i1 1 Try.underlying30 hi1 hy2 _ k (rows.length + 1) vs rfl ((own_below HO.out hb2 (Nat.le_refl _)).alloc _) ⟨w2.heap.size, 0, none⟩ 1 1 [.slice (some ⟨g2, 0, none⟩) r.length (r.length + 2)] rfl rfl (news_alloc w2 [.slice (some ⟨g2, 0, none⟩) r.length (r.length + 2)] 23) (by intro u hu; cases hu with | head => rfl | tail _ h => cases h) (by omega) ?_; intro w3 hown3 hgr3; have HO3 := Lib.hid hown3; have HG3 := Lib.hid hgr3; clear hown3 hgr3)
        | (go_at_call 12; refine (lent_any lo hi wr _ r HSR.out (Nat.le_trans hhi hbs)).mono ?_; rintro e w2 ⟨g2, rfl, hg2, hblk2, hb2⟩; have hs2 := hb2.size; have HB2 := Lib.hid hblk2; clear hblk2))
      go_roundw
      case rel =>
        have hgr := grown_alloc HG3.out
        have hkeep : ∀ (gi : Nat) (o : Obj), w2.heap[gi]? = some o → gi ≠ w.heap.size → w3.heap[gi]? = some o := fun gi o h hne => (hgr.block gi (heap_lt h) (fun e => hne (by injection e))).trans h
        have hgw : ∀ (gi : Nat) (cs : Array Value), w2.heap[gi]? = some (.cells cs 5 (0, 0)) → gi ≠ w.heap.size := fun gi cs h e => by
          obtain ⟨_, ⟨h0, _⟩ | ⟨g, cp, cur, h0, _, hh, _⟩⟩ := own_below HO.out hb2 (Nat.le_refl _)
          · cases h0
          · injection h0 with h0 _ _
            injection h0 with h0
            injection h0 with h0 _ _
            rw [e, h0, hh] at h
            injection h with h
            injection h with _ h
            cases h
        refine ⟨k + 1, vs ++ [.slice (some ⟨g2, 0, none⟩) r.length (r.length + 2)], by omega, by go_num, rfl, by rw [List.length_append, HVK.out]; rfl, HO3.out, fun i u q hu hq => ?_, fun i j u v a b hu hv ha hb hij => ?_, ((hbel.trans (hb2.mono hbs)).alloc (by omega) _).grown HG3.out (by simp; omega) (fun q hq => by injection hq with hq; omega)⟩
        · rcases Nat.lt_trichotomy i k with hi | hi | hi
          · rw [List.getElem?_append_left (by rw [HVK.out]; exact hi)] at hu
            obtain ⟨gi, e1, e2, e3⟩ := HE.out i u q hu hq
            have h2 := (hb2.block gi (heap_lt e2)).trans e2
            exact ⟨gi, e1, hkeep gi _ h2 (hgw gi _ h2), e3⟩
          · subst hi
            rw [List.getElem?_append_right (by rw [HVK.out]; exact Nat.le_refl _), HVK.out, Nat.sub_self] at hu
            rw [List.getElem?_eq_getElem hlt] at hq
            simp at hu hq
            subst hu hq
            rw [← HRR.out]
            exact ⟨g2, rfl, hkeep g2 _ HB2.out (hgw g2 _ HB2.out), by omega⟩
          · rw [List.getElem?_eq_none (by rw [List.length_append, HVK.out]; simp; omega)] at hu; cases hu
        · have hj : j < k + 1 := by
            have := (List.getElem?_eq_some_iff.1 hv).1
            rw [List.length_append, HVK.out] at this
            exact this
          have hik : i < k := by omega
          rw [List.getElem?_append_left (by rw [HVK.out]; exact hik)] at hu
          rcases Nat.lt_or_ge j k with hjk | hjk
          · rw [List.getElem?_append_left (by rw [HVK.out]; exact hjk)] at hv
            exact HI.out i j u v a b hu hv ha hb hij
          · have : j = k := by omega
            subst this
            rw [List.getElem?_append_right (by rw [HVK.out]; exact Nat.le_refl _), HVK.out, Nat.sub_self] at hv
            simp at hv
            subst hv
            injection hb with hb
            have hb' : g2 = b := hb
            obtain ⟨gi, e1, e2, e3⟩ := HE.out i u _ hu (List.getElem?_eq_getElem (by omega))
            subst e1
            injection ha with ha
            have ha' : gi = a := ha
            have := heap_lt e2
            omega
      case measure => simp [intOf]; omega
    · have e : k = rows.length := by omega
      subst e
      go_wp2_with (at_builtin; refine wpList_append_fits _ rfl (.tmp 24) (.tmp 25) 30 rfl w.heap.size 23 i1 1 Try.underlying30 hi1 hy2 _ rows.length (rows.length + 1) vs rfl (HO.out.alloc _) ⟨wr.heap.size, 0, none⟩ 1 1 [.slice none 0 0] rfl rfl (news_alloc wr [.slice none 0 0] 23) (by intro u hu; cases hu with | head => rfl | tail _ h => cases h) (by omega) ?_; intro w3 hown3 hgr3; have HO3 := Lib.hid hown3; have HG3 := Lib.hid hgr3; clear hown3 hgr3)
      go_ret
      have hgr := grown_alloc HG3.out
      obtain ⟨_, hfull⟩ := own_full HO3.out
      have hgw : ∀ (gi : Nat) (cs : Array Value), wr.heap[gi]? = some (.cells cs 5 (0, 0)) → gi ≠ w.heap.size := fun gi cs h e => by
        obtain ⟨_, ⟨h0, _⟩ | ⟨g, cp, cur, h0, _, hh, _⟩⟩ := HO.out
        · cases h0
        · injection h0 with h0 _ _
          injection h0 with h0
          injection h0 with h0 _ _
          rw [e, h0, hh] at h
          injection h with h
          injection h with _ h
          cases h
      refine ⟨w.heap.size, vs, rfl, ⟨hfull, HVK.out, fun i u q hu hq => ?_, HI.out, Nat.le_refl _⟩, (hbel.alloc hbs _).grown HG3.out (by simp; omega) (fun q hq => by injection hq with hq; omega)⟩
      obtain ⟨gi, e1, e2, e3⟩ := HE.out i u q hu hq
      exact ⟨gi, e1, (hgr.block gi (heap_lt e2) (fun e => hgw gi _ e2 (by injection e))).trans e2, e3⟩

theorem wholeRows_any (lo hi base g : Nat) (w : World) (v' : Value) (vs : List Value) (rows : List (List UInt8)) (h : LR w base g vs rows) (hv' : Rws lo hi w v' rows) (hn : rows.length ≤ 1000000) (hr : ∀ r ∈ rows, r.length ≤ 140737488355328) :
    Calls Try.prog 29 #[.slice (some ⟨g, 0, none⟩) rows.length (rows.length + 1), v'] w fun e w' => e = .returned (.bool true) ∧ ∃ n, w' = w.drewN n := by
  obtain ⟨vs', hvl', ⟨ao', cap', rfl, hs'⟩, hr'⟩ := hv'
  rw [hvl']
  have hlen := h.len
  have HV' := Lib.hid hvl'
  have HS' := Lib.hid hs'
  have HR' := Lib.hid hr'
  have HL := Lib.hid hlen
  have cN : w.cell? ⟨g, rows.length, none⟩ = some (.slice none 0 0) := by
    rw [cell_of_row _ _ _ _ _ _ h.blk, List.getElem?_toArray, ← hlen, List.getElem?_append_right (Nat.le_refl _), Nat.sub_self]; rfl
  have cK : ∀ k (hk : k < vs.length), w.cell? ⟨g, k, none⟩ = some vs[k] := fun k hk => by
    rw [cell_of_row _ _ _ _ _ _ h.blk, List.getElem?_toArray, List.getElem?_append_left hk, List.getElem?_eq_getElem hk]
  have HC := Lib.hid cK
  have HH := Lib.hid h
  have HRR := Lib.hid hr
  clear hs' hr' hvl' hlen cK h hr
  go_enter Try.func29, Try.ntmps29
  go_wp2
  go_loopw [5] (fun i wr => ∃ k n : Nat, k ≤ rows.length ∧ i = .int .i64 k ∧ Hid (wr = w.drewN n)) (fun i _ => rows.length - (intOf i).toNat)
  case atStart => exact ⟨0, 0, by omega, rfl, Lib.hid rfl⟩
  case round =>
    obtain ⟨k, n, hk, rfl, HW⟩ := hrel
    by_cases hlt : k < rows.length
    · have hv : k < vs.length := by rw [HL.out]; exact hlt
      have hv' : k < vs'.length := by rw [HV'.out]; exact hlt
      obtain ⟨b', off', rfl, _, hb1', hcell'⟩ := HS'.out.cells (by intro e; subst e; simp at hv')
      have key : ∀ (p : Addr), wr.cell? p = w.cell? p := fun p => by rw [HW.out]; rfl
      have hc1 : wr.cell? ⟨g, k, none⟩ = some vs[k] := by have h0 := HC.out k hv; rw [key]; exact h0
      have hc2 : wr.cell? ⟨b', off' + k, none⟩ = some vs'[k] := by have h0 := hcell' k hv'; rw [key]; exact h0
      obtain ⟨gi, hxe, hxb, _⟩ := HH.out.each k vs[k] rows[k] (List.getElem?_eq_getElem hv) (List.getElem?_eq_getElem hlt)
      have s2 : Sl lo hi f8 wr vs'[k] rows[k] := (HR'.out k hlt hv').same (fun _ _ _ => by rw [HW.out]; rfl)
      have i1 : (0 : Int) ≤ (k : Int) ∧ (k : Int) < (rows.length : Int) := by omega
      obtain ⟨y, hy⟩ : ∃ y, y = vs'[k] := ⟨_, rfl⟩
      rw [← hy] at hc2 s2
      rw [hxe] at hc1
      have hblk : ∀ m : Nat, (wr.drewN m).heap[gi]? = some (.cells (rows[k].map f8 ++ [Value.int .u8 91, Value.int .u8 92]).toArray 5 (0, 0)) := fun m => by
        show wr.heap[gi]? = _
        rw [HW.out]; exact hxb
      have hrl := HRR.out rows[k] (List.getElem_mem hlt)
      have HBK := Lib.hid hblk
      have HS2 := Lib.hid s2
      have hsame : sameB rows[k] rows[k] = true := by simp [sameB]
      obtain ⟨r, hre⟩ : ∃ r, r = rows[k] := ⟨_, rfl⟩
      rw [← hre] at hc1 HBK HS2 hrl hsame
      have HSM := Lib.hid hsame
      clear key hcell' s2 hy hblk hxe hxb hre hsame
      go_wp2
      go_quiet ((go_at_call 15; exact Calls.quiet_of (whole_any lo hi gi (wr.drewN _) y r r hrl (HBK.out _) (HS2.out.same (fun _ _ _ => rfl)))))
      rw [HSM.out]
      have HW2 : Hid (wr.drewN nq = w.drewN (n + nq)) := Lib.hid (by rw [HW.out, World.drewN_drewN])
      go_wp2
      go_roundw
      case rel => exact ⟨k + 1, _, by omega, by go_num, HW2⟩
      case measure => simp [intOf]; omega
    · go_wp2
      go_ret
      exact ⟨rfl, _, HW.out⟩

theorem spoilRows_any (base g : Nat) (w : World) (vs : List Value) (rows : List (List UInt8)) (h : LR w base g vs rows) (hn : rows.length ≤ 1000000) (hr : ∀ r ∈ rows, r.length ≤ 140737488355328) (bT : Nat) (hT : g < bT ∧ ∀ u ∈ vs, ∀ k, u.ownBlock = some k → k < bT) :
    Calls Try.prog 30 #[.slice (some ⟨g, 0, none⟩) rows.length (rows.length + 1)] w fun e w' => e = .returned (.tuple #[]) ∧ Below base w w' ∧ ∀ k, bT ≤ k → k < w.heap.size → w'.heap[k]? = w.heap[k]? := by
  have HL := Lib.hid h.len
  have HT := Lib.hid hT
  clear hT
  have HH := Lib.hid h
  have HRR := Lib.hid hr
  clear h hr
  go_enter Try.func30, Try.ntmps30
  go_wp2
  go_loopw [2] (fun i wr => ∃ k : Nat, k ≤ rows.length ∧ i = .int .i64 k ∧ wr.heap[g]? = some (.cells (vs ++ [Value.slice none 0 0]).toArray 23 (0, 0)) ∧
      (∀ (i : Nat) (u : Value) (r : List UInt8), k ≤ i → vs[i]? = some u → rows[i]? = some r → ∃ gi, u = .slice (some ⟨gi, 0, none⟩) r.length (r.length + 2) ∧ wr.heap[gi]? = some (.cells (r.map f8 ++ [Value.int .u8 91, Value.int .u8 92]).toArray 5 (0, 0)) ∧ base ≤ gi) ∧ (∀ k, bT ≤ k → k < w.heap.size → wr.heap[k]? = w.heap[k]?) ∧ Below base w wr) (fun i _ => rows.length - (intOf i).toNat)
  case atStart => exact ⟨0, Nat.zero_le _, rfl, HH.out.blk, fun i u r _ hu hq => HH.out.each i u r hu hq, fun _ _ _ => rfl, Below.refl _ _⟩
  case round =>
    obtain ⟨k, hk, rfl, hblk, heach, htop, hbel⟩ := hrel
    have HTOP := Lib.hid htop
    clear htop
    have HB := Lib.hid hblk
    have HE := Lib.hid heach
    clear hblk heach
    by_cases hlt : k < rows.length
    · have hv : k < vs.length := by rw [HL.out]; exact hlt
      obtain ⟨gi, hxe, hxb, hgi⟩ := HE.out k vs[k] rows[k] (Nat.le_refl _) (List.getElem?_eq_getElem hv) (List.getElem?_eq_getElem hlt)
      have hc1 : wr.cell? ⟨g, k, none⟩ = some (.slice (some ⟨gi, 0, none⟩) rows[k].length (rows[k].length + 2)) := by
        rw [cell_of_row _ _ _ _ _ _ HB.out, List.getElem?_toArray, List.getElem?_append_left hv, List.getElem?_eq_getElem hv, hxe]
      have hrl := HRR.out rows[k] (List.getElem_mem hlt)
      obtain ⟨r, hre⟩ : ∃ r, r = rows[k] := ⟨_, rfl⟩
      rw [← hre] at hc1 hxb hrl hxe
      have HXB := Lib.hid hxb
      have HXE := Lib.hid hxe
      have i1 : (0 : Int) ≤ (k : Int) ∧ (k : Int) < (rows.length : Int) := by omega
      clear hxb hxe hre
      go_wp2_with (go_at_call 20; refine (spoil_any gi (r.length + 2) wr _ (by omega) (by simp) HXB.out r.length).mono ?_; rintro e w2 ⟨rfl, hgr⟩)
      go_roundw
      case rel =>
        refine ⟨k + 1, by omega, by go_num, ?_, fun i u q hi hu hq => ?_, fun q h1 h2 => (hgr.block q (Nat.lt_of_lt_of_le h2 hbel.size) (fun e => ?_)).trans (HTOP.out q h1 h2), hbel.grown hgr (by have := heap_lt HXB.out; omega) (fun q hq => by injection hq with hq; omega)⟩
        · refine (hgr.block g (heap_lt HB.out) (fun e => ?_)).trans HB.out
          injection e with e
          have h2 := HXB.out
          rw [← e, HB.out] at h2
          injection h2 with h2
          injection h2 with _ h2
          cases h2
        · obtain ⟨gj, e1, e2, e3⟩ := HE.out i u q (by omega) hu hq
          refine ⟨gj, e1, (hgr.block gj (heap_lt e2) (fun e => ?_)).trans e2, e3⟩
          injection e with e
          have := HH.out.inc k i vs[k] u gi gj (List.getElem?_eq_getElem hv) hu (by rw [HXE.out]; rfl) (by rw [e1]; rfl) (by omega)
          omega
        · injection e with e
          have := HT.out.2 vs[k] (List.getElem_mem hv) gi (by rw [HXE.out]; rfl)
          omega
      case measure => simp [intOf]; omega
    · have hbs : g < wr.heap.size := heap_lt HB.out
      have hbg := HH.out.lo
      have hbase : base ≤ wr.heap.size := by omega
      have hcs : (vs ++ [Value.slice none 0 0]).toArray.size = rows.length + 1 := by simp [HL.out]
      have HCS := Lib.hid hcs
      clear hcs
      go_wp2_with fail
      go_loopw [4] (fun i w' => ∃ (k : Nat) (cs : Array Value), k ≤ rows.length + 1 ∧ i = .int .i64 k ∧ cs.size = rows.length + 1 ∧ w'.heap[g]? = some (.cells cs 23 (0, 0)) ∧ (∀ k, bT ≤ k → k < w.heap.size → w'.heap[k]? = w.heap[k]?) ∧ Below base w w') (fun i _ => rows.length + 1 - (intOf i).toNat)
      case atStart => exact ⟨0, _, Nat.zero_le _, rfl, HCS.out, HB.out, HTOP.out, hbel⟩
      case round =>
        obtain ⟨k, cs, hk, rfl, hcs, hg, htop, hbl⟩ := hrel
        have HTOP2 := Lib.hid htop
        clear htop
        by_cases hlt : k < rows.length + 1
        · have hc : ∃ v, wr.cell? ⟨g, k, none⟩ = some v := ⟨cs[k]'(by omega), by rw [cell_of_row _ _ _ _ _ _ hg, Array.getElem?_eq_getElem]⟩
          obtain ⟨v, hc⟩ := hc
          have hf : wr.frozen? ⟨g, k, none⟩ = false := frozen_of_row _ _ _ _ _ hg
          have HG := Lib.hid hg
          have HC := Lib.hid hcs
          clear hg hcs
          go_wp2
          go_roundw
          case rel =>
            exact ⟨k + 1, cs.setIfInBounds k (.slice none 0 0), by omega, by go_num, by rw [Array.size_setIfInBounds]; exact HC.out, heap_setCell_same _ _ _ _ _ _ HG.out, fun q h1 h2 => (heap_setCell_other _ _ _ _ (Nat.ne_of_gt (Nat.lt_of_lt_of_le HT.out.1 h1))).trans (HTOP2.out q h1 h2), hbl.setCell hbg _⟩
          case measure => simp [intOf]; omega
        · go_wp2
          go_end0
          exact ⟨rfl, hbl, HTOP2.out⟩
end Go.Proofs.Ytckmeomhcikmoaa
