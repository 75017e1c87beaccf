/- barographref11.sector: what it returns. -/
import Derived.Test.YtckmeomhcikmoaaFrSector
import Derived.Test.YtckmeomhcikmoaaFrOwn2
namespace Go.Proofs.Ytckmeomhcikmoaa
open Go.RowKit
set_option maxRecDepth 100000
set_option maxHeartbeats 2000000

theorem W8_small (k : UInt8) : (W8 k) % 256 = W8 k := by have := W8_lt k; omega
/-- The first part of a sector, as the reference lays it: three times four bytes. -/
theorem hd_parts (k : UInt8) (seg : BitVec 32) (j n : Nat) (hj : j < 65536) (hn : n ≤ 240) : (Fr.hd k seg j n).map f8 =
    ([.int .u8 66, .int .u8 76, .int .u8 (W8 k), .int .u8 0] ++ [.int .u8 (W32 seg % 256), .int .u8 (W32 (seg >>> 8) % 256), .int .u8 (W32 (seg >>> 16) % 256), .int .u8 (W32 (seg >>> 24) % 256)]) ++
      [.int .u8 ((j : Int) % 256), .int .u8 ((j : Int) / 256), .int .u8 ((n : Int) % 256), .int .u8 ((n : Int) / 256)] := by
  rw [show (n : Int) % 256 = (n : Int) from by omega]
  have h := congrArg Array.toList (hd_cells k seg j n hj hn)
  simpa using h

theorem rsector_any (lo hi : Nat) (w : World) (k : UInt8) (seg : BitVec 32) (j : Nat) (hj : j < 65536) (v : Value) (p : List UInt8) (hv : Sl lo hi f8 w v p) (hp : p.length ≤ 240) (hhi : hi ≤ w.heap.size) :
    Calls Try.prog 35 #[.int .i64 (W8 k), .int .u32 (W32 seg), .int .i64 j, v] w fun e w' => ∃ u, e = .returned u ∧ w'.ownsRow w.heap.size 5 1 u 256 ((Fr.sect k seg j p).map f8) ∧ Below w.heap.size w w' := by
  obtain ⟨ao, cap, rfl, hv⟩ := hv
  obtain ⟨i0, hi0, hz0, hz1, hz2⟩ := info_parts info5
  have hlit := Lib.hid (hd_parts k seg j p.length hj hp)
  have hk8 := W8_lt k
  have hp' : (p.length : Int) ≤ 240 := by omega
  go_enter Try.func35, Try.ntmps35
  go_wp2_with (first
    | (at_builtin; refine wpList_append_sl rfl (.tmp 47) (.tmp 48) 23 rfl w.heap.size 5 i0 (.int .u8 0) 1 Try.underlying23 hi0 hz0 hz1 hz2 rfl _ 12 ((Fr.hd k seg j p.length).map f8) rfl (by rw [hlit.out]; exact H3.out) ao cap p rfl (hv.below hb3 hhi) (f8_one p) (by simp only [maxLen]; omega) (by omega) hb3.size ?_; intro v4 w4 hown4 hgr4; have hb4 := hb3.grown hgr4 hb3.size (own_row H3.out); have H4 := Lib.hid hown4; clear hown4 hgr4)
    | (at_builtin; refine wpList_append_own _ rfl (.tmp 30) (.tmp 45) 23 rfl w.heap.size 5 i0 (.int .u8 0) 1 1 Try.underlying23 hi0 hz0 hz1 hz2 rfl (by decide) _ 8 _ rfl (H2.out.alloc _) ⟨w2.heap.size, 0, none⟩ 4 4 [.int .u8 ((j : Int) % 256), .int .u8 ((j : Int) / 256), .int .u8 ((p.length : Int) % 256), .int .u8 ((p.length : Int) / 256)] rfl rfl (news_alloc w2 _ 5) (by simp [Value.oneCell']) (by decide) (by decide) (Nat.le_trans hb2.size (by simp)) ?_; intro v3 w3 hown3 hgr3 _; have hb3 := (hb2.alloc hb2.size _).grown hgr3 (by have := hb2.size; simp; omega) (own_row H2.out); have H3 := Lib.hid hown3; clear hown3 hgr3)
    | (at_builtin; refine wpList_append_own _ rfl (.tmp 16) (.tmp 28) 23 rfl w.heap.size 5 i0 (.int .u8 0) 1 1 Try.underlying23 hi0 hz0 hz1 hz2 rfl (by decide) _ 4 _ rfl (H1.out.alloc _) ⟨w1.heap.size, 0, none⟩ 4 4 [.int .u8 (W32 seg % 256), .int .u8 (W32 (seg >>> 8) % 256), .int .u8 (W32 (seg >>> 16) % 256), .int .u8 (W32 (seg >>> 24) % 256)] rfl rfl (news_alloc w1 _ 5) (by simp [Value.oneCell']) (by decide) (by decide) (Nat.le_trans hb1.size (by simp)) ?_; intro v2 w2 hown2 hgr2 _; have hb2 := (hb1.alloc hb1.size _).grown hgr2 (by have := hb1.size; simp; omega) (own_row H1.out); have H2 := Lib.hid hown2; clear hown2 hgr2)
    | (at_builtin; refine wpList_append_own _ rfl (.tmp 11) (.tmp 14) 23 rfl w.heap.size 5 i0 (.int .u8 0) 1 1 Try.underlying23 hi0 hz0 hz1 hz2 rfl (by decide) _ 0 [] rfl (World.ownsRow_nil _ _ _ _) ⟨w.heap.size, 0, none⟩ 4 4 [.int .u8 66, .int .u8 76, .int .u8 (W8 k), .int .u8 0] rfl rfl (news_alloc w _ 5) (by simp [Value.oneCell']) (by decide) (by decide) (by simp) ?_; intro v1 w1 hown1 hgr1 _; rw [Nat.zero_add, List.nil_append] at hown1; have hb1 : Below w.heap.size w w1 := ((Below.refl w.heap.size w).alloc (Nat.le_refl _) _).grown hgr1 (by simp) (fun q h => by cases h); have H1 := Lib.hid hown1; clear hown1 hgr1))
  go_loopw [9] (fun b wr => ∃ m : Nat, m ≤ 240 - p.length ∧ wr.ownsRow w.heap.size 5 1 b (12 + p.length + m) (((Fr.hd k seg j p.length).map f8 ++ p.map f8) ++ List.replicate m (.int .u8 0)) ∧ Below w.heap.size w wr) (fun b _ => match b with | .slice _ n _ => 252 - n | _ => 0)
  case atStart => exact ⟨0, Nat.zero_le _, by simpa using H4.out, hb4⟩
  case round =>
    obtain ⟨m, hm, hown, hbr⟩ := hrel
    obtain ⟨n1, hn1⟩ : ∃ n1, n1 = 12 + p.length + m := ⟨_, rfl⟩
    rw [← hn1] at hown
    have hn1' : n1 ≤ 252 := by omega
    obtain ⟨a5, c5, rfl⟩ := own_slice hown
    have HN1 := Lib.hid hn1
    have HO := Lib.hid hown
    have hbs := hbr.size
    clear hn1 hown
    by_cases hlt : n1 < 252
    · go_wp2_with (at_builtin; refine wpList_append_own _ rfl (.tmp 53) (.tmp 54) 23 rfl w.heap.size 5 i0 (.int .u8 0) 1 1 Try.underlying23 hi0 hz0 hz1 hz2 rfl (by decide) _ n1 _ rfl (HO.out.alloc _) ⟨wr.heap.size, 0, none⟩ 1 1 [.int .u8 0] rfl rfl (news_alloc wr [.int .u8 0] 5) (by simp [Value.oneCell']) (by simp only [maxLen]; omega) (by omega) (by simp; omega) ?_; intro v5 w5 hown5 hgr5 _; have H5 := Lib.hid hown5; have hb5 := (hbr.alloc hbs _).grown hgr5 (by simp; omega) (own_row HO.out); obtain ⟨a6, c6, hv5⟩ := own_slice hown5; subst hv5; clear hown5 hgr5)
      go_roundw
      case rel =>
        refine ⟨m + 1, by have := HN1.out; omega, ?_, hb5⟩
        have h5 := H5.out
        rw [List.append_assoc, ← List.replicate_succ'] at h5
        rw [show 12 + p.length + (m + 1) = n1 + 1 from by have := HN1.out; omega]
        exact h5
      case measure => simp; omega
    · have hm' : m = 240 - p.length := by have := HN1.out; omega
      have hn2 : n1 = 252 := by have := HN1.out; omega
      have hbody : wr.ownsRow w.heap.size 5 1 (.slice a5 252 c5) 252 ((Fr.body k seg j p).map f8) := by
        have h5 := HO.out
        rw [hn2, hm'] at h5
        have e1 : (Fr.body k seg j p).map f8 = (((Fr.hd k seg j p.length).map f8 ++ p.map f8) ++ List.replicate (240 - p.length) (.int .u8 0)) := by rw [Fr.body, List.map_append, List.map_append, map_zeros]
        rw [e1]
        exact h5
      subst hn2
      have HB := Lib.hid hbody
      obtain ⟨S, hS⟩ : ∃ S, S = Crc.sum (Fr.body k seg j p) := ⟨_, rfl⟩
      have HS := Lib.hid hS
      have HLE := Lib.hid (le_cells S)
      clear hbody hm' hS
      go_wp2_with (first
        | (at_builtin; refine wpList_append_own _ rfl (.tmp 58) (.tmp 70) 23 rfl w.heap.size 5 i0 (.int .u8 0) 1 1 Try.underlying23 hi0 hz0 hz1 hz2 rfl (by decide) _ 252 _ rfl (HB.out.alloc _) ⟨wr.heap.size, 0, none⟩ 4 4 [.int .u8 (W32 S % 256), .int .u8 (W32 (S >>> 8) % 256), .int .u8 (W32 (S >>> 16) % 256), .int .u8 (W32 (S >>> 24) % 256)] rfl rfl (news_alloc wr _ 5) (by simp [Value.oneCell']) (by decide) (by decide) (by simp; omega) ?_; intro v6 w6 hown6 hgr6 _; have H6 := Lib.hid hown6; have hb6 := (hbr.alloc hbs _).grown hgr6 (by simp; omega) (own_row HB.out); clear hown6 hgr6)
        | (go_at_call 17; refine (rsum_any w.heap.size wr.heap.size wr _ (Fr.body k seg j p) (sl_own HB.out (Fr.body_len k seg j hp) (by decide))).mono ?_; rintro e w5 ⟨rfl, rfl⟩; rw [← HS.out]))
      go_ret
      refine ⟨_, rfl, ?_, hb6⟩
      have h6 := H6.out
      rw [← HLE.out, ← List.map_append, HS.out] at h6
      exact h6
end Go.Proofs.Ytckmeomhcikmoaa
