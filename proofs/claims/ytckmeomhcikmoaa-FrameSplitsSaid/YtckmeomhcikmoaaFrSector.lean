/- frame.sector: what it returns. -/
import Derived.Test.YtckmeomhcikmoaaFrOwn
import Derived.Test.YtckmeomhcikmoaaFrLaws
import Derived.Test.YtckmeomhcikmoaaSums
import Derived.Test.YtckmeomhcikmoaaLent
namespace Go.Proofs.Ytckmeomhcikmoaa
open Go.RowKit
set_option maxRecDepth 100000

theorem W8_u8 (n : Nat) : W8 (Fr.u8 n) = (n : Int) % 256 := by unfold W8; rw [Fr.u8_toNat]; omega
theorem W8_bv (x : BitVec 32) : W8 (UInt8.ofBitVec (x.setWidth 8)) = W32 x % 256 := by
  unfold W8 W32
  show ((x.setWidth 8).toNat : Int) = _
  rw [BitVec.toNat_setWidth]; omega
/-- A literal is a row of the call's own. -/
theorem own_lit (w : World) {base : Nat} (hb : base ≤ w.heap.size) (e : TypeId) (cs : Array Value) (n : Nat) (xs : List Value) (hn : n = xs.length) (hx : xs.toArray = cs) (hm : n ≤ maxLen) :
    (w.alloc (.cells cs e)).ownsRow base e 1 (.slice (some ⟨w.heap.size, 0, none⟩) n n) n xs := by
  subst hx hn
  exact ⟨by simp, .inr ⟨w.heap.size, _, _, rfl, hb, heap_alloc_new w _, Nat.le_refl _, hm, by simp, by simp⟩⟩
theorem hd_cells (k : UInt8) (seg : BitVec 32) (j n : Nat) (hj : j < 65536) (hn : n ≤ 240) : ((Fr.hd k seg j n).map f8).toArray =
    #[.int .u8 66, .int .u8 76, .int .u8 (W8 k), .int .u8 0, .int .u8 (W32 seg % 256), .int .u8 (W32 (seg >>> 8) % 256), .int .u8 (W32 (seg >>> 16) % 256), .int .u8 (W32 (seg >>> 24) % 256),
      .int .u8 ((j : Int) % 256), .int .u8 ((j : Int) / 256), .int .u8 (n : Int), .int .u8 ((n : Int) / 256)] := by
  have e0 : W8 66 = 66 := by decide
  have e1 : W8 76 = 76 := by decide
  have e2 : W8 0 = 0 := by decide
  have e3 : ((j / 256 : Nat) : Int) % 256 = (j : Int) / 256 := by omega
  have e4 : (n : Int) % 256 = (n : Int) := by omega
  have e5 : ((n / 256 : Nat) : Int) % 256 = (n : Int) / 256 := by omega
  simp only [Fr.hd, Fr.le32, List.cons_append, List.nil_append, List.map_cons, List.map_nil, f8, W8_u8, W8_bv, e0, e1, e2, e3, e4, e5]
theorem le_cells (x : BitVec 32) : (Fr.le32 x).map f8 = [.int .u8 (W32 x % 256), .int .u8 (W32 (x >>> 8) % 256), .int .u8 (W32 (x >>> 16) % 256), .int .u8 (W32 (x >>> 24) % 256)] := by
  simp only [Fr.le32, List.map_cons, List.map_nil, f8, W8_bv]
theorem map_zeros (n : Nat) : (List.replicate n (0 : UInt8)).map f8 = List.replicate n (.int .u8 0) := by
  rw [List.map_replicate]; rfl

/-- What a row of the call's own reads as. -/
theorem sl_own {α : Type} {w : World} {base n : Nat} {e : TypeId} {f : α → Value} {v : Value} {l : List α} (h : w.ownsRow base e 1 v n (l.map f)) (hn : l.length = n) (hl : n ≤ 140737488355328) : Sl base w.heap.size f w v l := by
  subst hn
  exact Sl.owns h hl

theorem sector_any (lo hi : Nat) (w : World) (k : UInt8) (seg : BitVec 32) (j : Nat) (hj : j < 65536) (v : Value) (p : List UInt8) (hv : Sl lo hi f8 w v p) (hp : p.length ≤ 240) (hhi : hi ≤ w.heap.size) :
    Calls Try.prog 34 #[.int .u8 (W8 k), .int .u32 (W32 seg), .int .i64 j, v] w fun e w' => ∃ u, e = .returned u ∧ w'.ownsRow w.heap.size 5 1 u 256 ((Fr.sect k seg j p).map f8) ∧ Below w.heap.size w w' := by
  obtain ⟨ao, cap, rfl, hv⟩ := hv
  obtain ⟨i0, hi0, hz0, hz1, hz2⟩ := info_parts info5
  have hlit := Lib.hid (hd_cells k seg j p.length hj hp)
  obtain ⟨n1, hn1⟩ : ∃ n1, n1 = 12 + p.length := ⟨_, rfl⟩
  obtain ⟨m1, hm1⟩ : ∃ m1, m1 = 240 - p.length := ⟨_, rfl⟩
  have em : (252 : Int) - (n1 : Int) = (m1 : Int) := by omega
  have hn1' : n1 ≤ 252 := by omega
  have HN := Lib.hid hn1
  have HM := Lib.hid hm1
  clear hn1 hm1
  go_enter Try.func34, Try.ntmps34
  go_wp2_with (first
    | (at_builtin; refine wpList_append_own _ rfl (.tmp 46) (.tmp 58) 23 rfl w.heap.size 5 i0 (.int .u8 0) 1 1 Try.underlying23 hi0 hz0 hz1 hz2 rfl (by decide) _ 252 _ rfl (hown3.alloc _) ⟨w3.heap.size, 0, none⟩ 4 4 _ rfl rfl (news_alloc w3 _ 5) (by intro u hu; rw [← HL.out] at hu; exact f8_one _ u hu) (by decide) (by decide) (Nat.le_trans hb3'.size (by simp)) ?_; intro v4 w4 hown4 hgr4 _; rw [← HL.out, ← List.map_append, HS.out] at hown4; obtain ⟨g4, c4, hv4, hg4, hg4'⟩ := own_shape hown4 (by decide); subst hv4; have hb4 := (hb3'.alloc hb3'.size _).grown hgr4 (by have := hb3'.size; simp; omega) (fun k hk => by cases hk; exact hg2))
    | (go_at_call 13; refine (sum_any w.heap.size w2.heap.size w2 _ (Fr.body k seg j p) (sl_own hown2b (Fr.body_len k seg j hp) (by decide)) (Nat.le_refl _)).mono ?_; rintro e w3 ⟨rfl, hb3⟩; have hown3 := own_below hown2b hb3 (Nat.le_refl _); have hb3' := hb2.trans (hb3.mono hb2.size); clear hown2b hb3; obtain ⟨S, hS⟩ : ∃ S, S = Crc.sum (Fr.body k seg j p) := ⟨_, rfl⟩; rw [← hS]; have HS := Lib.hid hS; clear hS; have HL := Lib.hid (le_cells S))
    | (at_builtin; refine wpList_append_own_zeros rfl (.tmp 39) (.tmp 42) 23 3 rfl w.heap.size 5 i0 (.int .u8 0) 1 .i64 .i64 Try.underlying23 Try.underlying3 hi0 hz0 hz1 hz2 rfl rfl _ n1 _ rfl hown1 m1 rfl (by simp only [maxLen]; omega) (by omega) hb1.size ?_; intro v2 w2 hown2 hgr2; rw [show n1 + m1 = 252 from by omega] at hown2; obtain ⟨g2, c2, hv2, hg2, hg2'⟩ := own_shape hown2 (by decide); subst hv2; have hb2 := hb1.grown hgr2 hb1.size (fun k hk => by cases hk; exact hg1); have hown2b : w2.ownsRow w.heap.size 5 1 (.slice (some ⟨g2, 0, none⟩) 252 c2) 252 ((Fr.body k seg j p).map f8) := (by have e1 : (Fr.body k seg j p).map f8 = (((Fr.hd k seg j p.length).map f8 ++ p.map f8) ++ List.replicate m1 (.int .u8 0)) := (by rw [Fr.body, List.map_append, List.map_append, map_zeros, HM.out]); rw [e1]; exact hown2); clear hown2 hown1)
    | (at_builtin; refine wpList_append_sl rfl (.tmp 36) (.tmp 37) 23 rfl w.heap.size 5 i0 (.int .u8 0) 1 Try.underlying23 hi0 hz0 hz1 hz2 rfl _ 12 ((Fr.hd k seg j p.length).map f8) rfl (own_lit w (Nat.le_refl _) 5 _ 12 _ rfl hlit.out (by decide)) ao cap p rfl (hv.below ((Below.refl _ _).alloc (Nat.le_refl _) _) hhi) (f8_one p) (by simp only [maxLen]; omega) (by omega) (by simp) ?_; intro v1 w1 hown1 hgr1; rw [← HN.out] at hown1; obtain ⟨g1, c1, hv1, hg1, hg1'⟩ := own_shape hown1 (by have := HN.out; omega); subst hv1; have hb1 := ((Below.refl w.heap.size w).alloc (Nat.le_refl _) _).grown hgr1 (by simp) (fun k hk => by cases hk; exact Nat.le_refl _)))
  go_ret
  exact ⟨_, rfl, hown4, hb4⟩
end Go.Proofs.Ytckmeomhcikmoaa
