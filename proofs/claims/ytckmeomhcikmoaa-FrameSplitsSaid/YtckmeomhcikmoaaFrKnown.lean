/- What the chapter's examples fix of frames: known returns true; what much says. -/
import Derived.Test.YtckmeomhcikmoaaFrSplit
import Derived.Test.YtckmeomhcikmoaaFrScan
import Derived.Test.YtckmeomhcikmoaaCrcKnown
import Derived.Laws.OwnMore
namespace Go.Proofs.Ytckmeomhcikmoaa
open Go.RowKit
set_option maxRecDepth 100000
set_option maxHeartbeats 4000000

theorem split_at (lo hi : Nat) (w : World) (sz : Int) (seg : BitVec 32) (hs : sz = W32 seg) (a : Int) (ha : -9223372036854775808 ≤ a ∧ a ≤ 9223372036854775807) (v : Value) (r : List UInt8) (hv : Sl lo hi f8 w v r) (hhi : hi ≤ w.heap.size) (R : List (List UInt8)) (E : Nat) (hR : Fr.splitW seg a r = (R, E)) :
    Calls Try.prog 19 #[.int .u32 sz, .int .i64 a, v] w fun e w' => ∃ u vs, e = .returned (.tuple #[u, .int .u16 (E : Int)]) ∧ ORow w' w.heap.size u vs R ∧ Below w.heap.size w w' := by
  subst hs
  have h := split_any lo hi w seg a ha v r hv hhi
  rw [hR] at h
  exact h.mono fun e w' ⟨u, he, ⟨vs, hr⟩, hb⟩ => ⟨u, vs, he, hr, hb⟩
theorem scan_at (lo hi : Nat) (w : World) (sz : Int) (seg : BitVec 32) (hs : sz = W32 seg) (v0 : Value) (rows0 : List (List UInt8)) (w0 : Rws lo hi w v0 rows0) (hn : rows0.length ≤ 1000000) (hhi : hi ≤ w.heap.size) (R : List (List UInt8)) (D : Nat) (hR : Fr.scan seg rows0 0 [] [] 0 false = (R, D)) :
    Calls Try.prog 28 #[.int .u32 sz, v0] w fun e w' => ∃ u vs, e = .returned (.tuple #[u, .int .i64 (D : Int)]) ∧ ORow w' w.heap.size u vs R ∧ Below w.heap.size w w' := by
  subst hs
  have h := scan_any lo hi w seg v0 rows0 w0 hn hhi
  rw [hR] at h
  exact h
theorem own_cap_le {w : World} {base : Nat} {e : TypeId} {ad : Addr} {n m c : Nat} {xs : List Value} (h : w.ownsRow base e 1 (.slice (some ad) n c) m xs) : m ≤ c := by
  obtain ⟨_, ⟨h, _⟩ | ⟨g, cap, cur, h, _, _, h1, _⟩⟩ := h
  · cases h
  · injection h with _ _ h
    omega
/-- The first row's cell. -/
theorem ORow.first {w : World} {base : Nat} {v : Value} {vs : List Value} {r : List UInt8} {rows : List (List UInt8)} (h : ORow w base v vs (r :: rows)) (hr : 0 < r.length) :
    ∃ g cap g' c', v = .slice (some ⟨g, 0, none⟩) (rows.length + 1) cap ∧ w.cell? ⟨g, 0, none⟩ = some (.slice (some ⟨g', 0, none⟩) r.length c') ∧ w.ownsRow base 5 1 (.slice (some ⟨g', 0, none⟩) r.length c') r.length (r.map f8) ∧ r.length ≤ c' := by
  have hl : vs.length = rows.length + 1 := by rw [h.len]; rfl
  obtain ⟨g, cap, hv, _, _⟩ := own_shape h.row (by omega)
  rw [hl] at hv
  subst hv
  obtain ⟨x, hx⟩ : ∃ x, vs[0]? = some x := ⟨_, List.getElem?_eq_getElem (by omega)⟩
  have hx' := h.each 0 x r hx rfl
  obtain ⟨g', c', rfl, _, _⟩ := own_shape hx' hr
  have hrow := h.row
  rw [hl] at hrow
  exact ⟨g, cap, g', c', rfl, (hrow.cellAt 0 (by omega)).trans hx, hx', own_cap_le hx'⟩
/-- The old view behind an append of one more row. -/
theorem ORow.old {w w' : World} {o : Obj} {base n g cap : Nat} {v u : Value} {vs : List Value} {rows : List (List UInt8)} (h : ORow w base v vs rows) (hn : n = vs.length) (hst : Stay (w.alloc o) w' v n g cap) (hw : w'.ownsRow base 23 1 (.slice (some ⟨g, 0, none⟩) (n + 1) cap) (n + 1) (vs ++ [u])) : ORow w' base v vs rows := by
  subst hn
  refine ⟨hst.old (h.row.alloc _) hw, h.len, fun i x r hx hr => ?_, h.apt⟩
  have h1 := (h.each i x r hx hr).alloc o
  refine h1.kept hst.grown ?_
  rcases hvb : x.ownBlock with _ | k
  · exact .inl rfl
  · exact .inr (fun e1 => own_apart (h.row.alloc o) h1 (by decide) k e1.symm hvb)
theorem noughts_made (n : Nat) : (madeCells (Value.int .u8 0).cells (n * 1)).toList = (Fr.noughts n).map f8 := by
  rw [Nat.mul_one]
  show (madeCells #[Value.int .u8 0] n).toList = _
  rw [toList_madeCells_one]
  simp [Fr.noughts, f8, W8]
theorem conv_first {lo hi : Nat} {w : World} {g c : Nat} {l m : List UInt8} (h : Sl lo hi f8 w (.slice (some ⟨g, 0, none⟩) l.length c) l) (n : Nat) (hn : n ≤ l.length) (hm : l.take n = m) :
    (convert 23 9 (.slice (some ⟨g, 0, none⟩) n c)).run Try.prog w = .ok (.string (strB m)) w := by
  obtain ⟨ao, cap, hv, h⟩ := h
  injection hv with h1 _ h2
  subst h1 h2
  obtain ⟨ao', cap', hv', h'⟩ := Sl.takes h n c hn (Nat.le_trans hn h.le) (by intro e; cases e)
  injection hv' with h1 h2 h3
  subst h1 h3
  have := conv_sl h'
  rw [← h2, hm] at this
  exact this

theorem below_chain {w w' w'' : World} (h1 : Below w.heap.size w w') (h2 : Below w'.heap.size w' w'') : Below w.heap.size w w'' := h1.trans (h2.mono h1.size)
theorem own2 {w w' : World} {base n : Nat} {v : Value} {vs : List Value} {rows : List (List UInt8)} (h : ORow w base v vs rows) (hn : vs.length = n) (hb : Below w.heap.size w w') : w'.ownsRow base 23 1 v n vs := by
  subst hn
  exact own_below h.row hb (Nat.le_refl _)

theorem grown_alloc {w w1 : World} {o : Obj} {r : Option Nat} (g : (w.alloc o).grownBy w1 r) : w.grownBy w1 r :=
  ⟨g.os, g.tape, g.output, by have := g.size; simp at this; omega, fun k hk hr => (g.block k (by simp; omega) hr).trans (Below.heap_alloc _ _ _ hk)⟩

theorem frKnown_any (w : World) : Calls Try.prog 23 #[] w fun e w' => e = .returned (.bool true) ∧ Below w.heap.size w w' := by
  obtain ⟨i0, hi0, hz0, hz1, hz2⟩ := info_parts info5
  obtain ⟨i1, hi1, hy1, hy2, hy3⟩ := info_parts info23
  have kc := fun (w : World) (C : Array Value) (n c : Nat) => Lib.run_convert_bytes_const (P := Try.prog) w 23 5 C n c Try.underlying23 Try.underlying5
  go_enter Try.func23, Try.ntmps23
  go_wp2_with fail
  refine Calls.mono (split_at w.heap.size (w.heap.size + 1) _ _ 7#32 (by decide) 3 (by omega) _ [97, 98] (by exact Sl.lit8 w [97, 98] _ _ rfl (by simp) _ rfl _) (by simp) _ _ Fr.kn1) ?_
  rintro e w1 ⟨u1, vs1, rfl, hr1, hb1⟩
  have HS1 := Lib.hid (show Below w.heap.size w w1 from ((Below.refl w.heap.size w).alloc (Nat.le_refl _) _).trans (hb1.mono (by simp)))
  have HR1 := Lib.hid (hr1.mono (base' := w.heap.size) (by simp))
  clear hr1 hb1
  go_wp2_with (at_make; refine wpList_make_full _ rfl _ _ 23 rfl w1.heap.size 5 i0 (.int .u8 0) 1 Try.underlying23 hi0 hz0 hz1 .i64 .i64 _ _ 241 rfl rfl (by rfl) (by rfl) (by rw [hz2]; omega) (by decide) (Nat.le_refl _) ?_; intro w2 hown2 hgr2; rw [noughts_made] at hown2; have HO2 := Lib.hid hown2; have hb2 : Below w1.heap.size w1 w2 := (Below.refl _ _).grown hgr2 (Nat.le_refl _) (by intro q hq; cases hq); have HS2 := Lib.hid hb2; clear hown2 hgr2 hb2)
  refine Calls.mono (split_at w1.heap.size w2.heap.size _ _ 1#32 (by decide) 0 (by omega) _ (Fr.noughts 241) (sl_own HO2.out (Fr.noughts_len _) (by decide)) (Nat.le_refl _) _ _ Fr.kn2) ?_
  rintro e w3 ⟨u3, vs3, rfl, hr3, hb3⟩
  have HR3 := Lib.hid hr3
  have HS3 := Lib.hid hb3
  clear hr3 hb3
  go_wp2_with (at_make; refine wpList_make_full _ rfl _ _ 23 rfl w3.heap.size 5 i0 (.int .u8 0) 1 Try.underlying23 hi0 hz0 hz1 .i64 .i64 _ _ 241 rfl rfl (by rfl) (by rfl) (by rw [hz2]; omega) (by decide) (Nat.le_refl _) ?_; intro w4 hown4 hgr4; rw [noughts_made] at hown4; have HO4 := Lib.hid hown4; have hb4 : Below w3.heap.size w3 w4 := (Below.refl _ _).grown hgr4 (Nat.le_refl _) (by intro q hq; cases hq); have HS4 := Lib.hid hb4; clear hown4 hgr4 hb4)
  refine Calls.mono (split_at w3.heap.size w4.heap.size _ _ 1#32 (by decide) 31 (by omega) _ (Fr.noughts 241) (sl_own HO4.out (Fr.noughts_len _) (by decide)) (Nat.le_refl _) _ _ Fr.kn3) ?_
  rintro e w5 ⟨u5, vs5, rfl, hr5, hb5⟩
  have HR5 := Lib.hid hr5
  have HS5 := Lib.hid hb5
  clear hr5 hb5
  have HR1' := Lib.hid (HR1.out.below (below_chain HS2.out (below_chain HS3.out (below_chain HS4.out HS5.out))) (Nat.le_refl _))
  have HR3' := Lib.hid (HR3.out.below (below_chain HS4.out HS5.out) (Nat.le_refl _))
  obtain ⟨x0, c0, x1, c1, hu1, hc1, hx1, hxc⟩ := HR1'.out.first (by decide)
  have hc14 : 14 ≤ c1 := Nat.le_trans (by decide) hxc
  clear hxc
  have hl3 : vs3.length = 2 := by rw [HR3'.out.len, Fr.kn2_len]
  obtain ⟨g3, c3, hu3, _, _⟩ := own_shape HR3'.out.row (by omega)
  rw [hl3] at hu3
  subst hu1 hu3
  obtain ⟨a5, c5, hu5⟩ := own_slice HR5.out.row
  have hl5 : vs5.length = 0 := HR5.out.len
  rw [hl5] at hu5
  subst hu5
  have kk : (convert 23 9 (.slice (some ⟨x1, 0, none⟩) 14 c1)).run Try.prog w5 = .ok (.string ⟨#[66, 76, 1, 0, 7, 0, 0, 0, 3, 0, 2, 0, 97, 98]⟩) w5 := conv_first (sl_own hx1 rfl (by decide)) 14 (by decide) Fr.kn1_take
  rw [show (Fr.sect 1 7#32 3 [97, 98]).length = 256 from rfl] at hc1
  clear hx1
  have hs5 := HS5.out.size
  have hs5' : w.heap.size ≤ w5.heap.size := Nat.le_trans HS1.out.size (Nat.le_trans HS2.out.size (Nat.le_trans HS3.out.size (Nat.le_trans HS4.out.size HS5.out.size)))
  have h25 : w2.heap.size ≤ w5.heap.size := Nat.le_trans HS3.out.size (Nat.le_trans HS4.out.size HS5.out.size)
  have HB5 : Hid (Below w.heap.size w w5) := Lib.hid (below_chain HS1.out (below_chain HS2.out (below_chain HS3.out (below_chain HS4.out HS5.out))))
  have HL3 := Lib.hid hl3
  clear hl3 hl5
  go_wp2_with (first
    | (at_builtin; refine wpList_append_stay _ rfl (.tmp 63) (.tmp 65) 30 rfl w2.heap.size 23 i1 (.slice none 0 0) 24 Try.underlying30 hi1 hy1 hy2 hy3 rfl _ 2 vs3 rfl ((own2 HR3'.out HL3.out HS6.out).alloc _) ⟨w6.heap.size, 0, none⟩ 1 (.slice (some ⟨w5.heap.size, 0, none⟩) 256 256) rfl (news_alloc w6 [.slice (some ⟨w5.heap.size, 0, none⟩) 256 256] 23) rfl (by decide) (by decide) (by simp; omega) ?_; intro g cap w7 hown7 hst7 hgl; have HO7 := Lib.hid hown7; have HST7 := Lib.hid hst7; clear hown7 hst7 hgl)
    | (at_make; refine wpList_make_full _ rfl _ _ 23 rfl w5.heap.size 5 i0 (.int .u8 0) 1 Try.underlying23 hi0 hz0 hz1 .i64 .i64 _ _ 256 rfl rfl (by rfl) (by rfl) (by rw [hz2]; omega) (by decide) (Nat.le_refl _) ?_; intro w6 hown6 hgr6; rw [noughts_made] at hown6; have HO6 := Lib.hid hown6; have hb6 : Below w5.heap.size w5 w6 := (Below.refl _ _).grown hgr6 (Nat.le_refl _) (by intro q hq; cases hq); have hs6 := hb6.size; have h26 : w2.heap.size ≤ w6.heap.size := Nat.le_trans h25 hs6; have HS6 := Lib.hid hb6; clear hown6 hgr6 hb6))
  have hrow7 : ORow w7 w2.heap.size (.slice (some ⟨g, 0, none⟩) 3 cap) (vs3 ++ [.slice (some ⟨w5.heap.size, 0, none⟩) 256 256]) (Fr.splitL 1#32 0 (Fr.noughts 241) ++ [Fr.noughts 256]) := by
    refine ORow.push (wr := w5) (w2 := w6) HR3'.out HS6.out (by rw [Fr.noughts_len]; exact HO6.out) h25 (by rw [HL3.out]; exact HO7.out) HST7.out.grown
  have hold7 : ORow w7 w2.heap.size (.slice (some ⟨g3, 0, none⟩) 2 c3) vs3 (Fr.splitL 1#32 0 (Fr.noughts 241)) :=
    ORow.old (HR3'.out.below HS6.out (Nat.le_refl _)) HL3.out.symm HST7.out HO7.out
  have hgr7 : w6.grownBy w7 (some g3) := grown_alloc HST7.out.grown
  have hS67 : Below w2.heap.size w6 w7 := (Below.refl _ _).grown hgr7 h26 (by intro q hq; cases hq; exact (hold7.row.lt g3 rfl).1)
  have hB7 : Below w.heap.size w w7 := (HB5.out.trans (HS6.out.mono hs5')).trans (hS67.mono (Nat.le_trans HS1.out.size HS2.out.size))
  have HROW := Lib.hid (hrow7.rws (by simp [Fr.splitL_len, Fr.cnt241]) (fun r hr => by
    rcases List.mem_append.1 hr with hr | hr
    · rw [Fr.splitL, List.mem_map] at hr
      obtain ⟨i, _, rfl⟩ := hr
      rw [Fr.one_len]; decide
    · rw [List.mem_singleton] at hr; subst hr; rw [Fr.noughts_len]; decide))
  have HOLD := Lib.hid hold7
  have HB7 := Lib.hid hB7
  clear hrow7 hold7 hgr7 hS67 hB7
  refine Calls.mono (scan_at w2.heap.size w7.heap.size w7 _ 1#32 (by decide) _ _ HROW.out (by simp [Fr.splitL_len, Fr.cnt241]) (Nat.le_refl _) _ _ Fr.kn4) ?_
  rintro e w8 ⟨u8, vs8, rfl, hr8, hb8⟩
  have HR8 := Lib.hid hr8
  have HS8 := Lib.hid hb8
  have HOLD8 := Lib.hid ((HOLD.out.below hb8 (Nat.le_refl _)).rws (by simp [Fr.splitL_len, Fr.cnt241]) (fun r hr => by
    rw [Fr.splitL, List.mem_map] at hr
    obtain ⟨i, _, rfl⟩ := hr
    rw [Fr.one_len]; decide))
  clear hr8 hb8
  go_wp2_with fail
  refine Calls.mono (scan_at w2.heap.size w8.heap.size w8 _ 2#32 (by decide) _ _ HOLD8.out (by simp [Fr.splitL_len, Fr.cnt241]) (Nat.le_refl _) _ _ Fr.kn5) ?_
  rintro e w9 ⟨u9, vs9, rfl, hr9, hb9⟩
  have HB9 := Lib.hid (HB7.out.trans ((below_chain HS8.out hb9).mono HB7.out.size))
  obtain ⟨y0, d0, y1, d1, hu8, hc8, hx8, _⟩ := (HR8.out.below hb9 (Nat.le_refl _)).first (by rw [Fr.noughts_len]; decide)
  obtain ⟨a9, c9, hu9⟩ := own_slice hr9.row
  have hl9 : vs9.length = 0 := hr9.len
  rw [hl9] at hu9
  rw [Fr.noughts_len] at hc8
  subst hu8 hu9
  clear hx8 hr9 hb9 hl9 kk hc1
  go_wp2_with fail
  go_ret
  exact ⟨rfl, HB9.out⟩
end Go.Proofs.Ytckmeomhcikmoaa
