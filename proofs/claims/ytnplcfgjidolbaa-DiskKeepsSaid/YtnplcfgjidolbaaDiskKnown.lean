/- What the chapter's examples fix of a disk. -/
import Derived.Test.YtnplcfgjidolbaaDiskCalm
namespace Go.Proofs.Ytnplcfgjidolbaa
open Go.RowKit Go.Maps

theorem drewN_b (w : World) (n : Nat) : Below w.heap.size w (w.drewN n) := ⟨rfl, rfl, rfl, Nat.le_refl _, fun _ _ => rfl⟩
theorem own_slice' {w : World} {base : Nat} {e : TypeId} {size : Nat} {v : Value} {n : Nat} {xs : List Value} (h : w.ownsRow base e size v n xs) : ∃ ao cap, v = .slice ao n cap := own_slice h
theorem keep3 (w8 W : World) {base : Nat} (hW : Dfr base (w8.alloc (.cells #[.bool true, .bool false, .bool true] 4)) W) : Sl 0 W.heap.size fB W (.slice (some ⟨w8.heap.size, 0, none⟩) 3 3) [true, false, true] := by
  have hb : W.heap[w8.heap.size]? = some (.cells #[.bool true, .bool false, .bool true] 4 (0, 0)) := (hW.keep _ _ _ _ (heap_alloc_new _ _) (by decide) (by decide) (by decide)).trans (heap_alloc_new _ _)
  refine ⟨some ⟨w8.heap.size, 0, none⟩, 3, rfl, by decide, (fun h => by cases h), fun _ => ⟨w8.heap.size, 0, rfl, Nat.zero_le _, heap_lt' hb, fun j hj => ?_⟩, by decide⟩
  rw [cell_of_row _ _ _ _ _ _ hb]
  match j, hj with
  | 0, _ => rfl
  | 1, _ => rfl
  | 2, _ => rfl
theorem ksector' {w wr : World} {B lb bm : Nat} {d : Dsk} (h : Kd w wr B lb bm d) (x : UInt8) (z : Int) (hz : z = W8 x) {s : List UInt8} (hs : List.replicate 256 x = s) : Calls Try.prog 33 #[.int .u8 z] wr fun e w' => ∃ v, e = .returned v ∧ Kd w w' B lb bm d ∧ w'.ownsRow w.heap.size 5 1 v s.length (s.map f8) ∧ Dfr w.heap.size wr w' := by
  subst hs
  exact ksector h x z hz
theorem same_rep (x : UInt8) : sameB (List.replicate 256 x) (List.replicate 256 x) = true := by simp [sameB]

set_option maxHeartbeats 4000000 in
set_option maxRecDepth 100000 in
theorem known5_any (w : World) : Calls Try.prog 30 #[] w fun e w' => e = .returned (.bool true) ∧ Below w.heap.size w w' := by
  obtain ⟨sa, ha⟩ : ∃ s, List.replicate 256 (97 : UInt8) = s := ⟨_, rfl⟩
  obtain ⟨sb, hb⟩ : ∃ s, List.replicate 256 (98 : UInt8) = s := ⟨_, rfl⟩
  obtain ⟨sc, hc⟩ : ∃ s, List.replicate 256 (99 : UInt8) = s := ⟨_, rfl⟩
  obtain ⟨sz, hz⟩ : ∃ s, List.replicate 256 (0 : UInt8) = s := ⟨_, rfl⟩
  have la : sa.length = 256 := by rw [← ha, List.length_replicate]
  have lb' : sb.length = 256 := by rw [← hb, List.length_replicate]
  have lc : sc.length = 256 := by rw [← hc, List.length_replicate]
  have h97 : sameB sa sa = true := by simp [sameB]
  have h98 : sameB sb sb = true := by simp [sameB]
  have h99 : sameB sc sc = true := by simp [sameB]
  go_enter Try.func30, Try.ntmps30
  go_wp2_with (first
    | (go_at_call 16; refine (ksame O11.out lc O17.out lc).mono ?_; rintro e w18 ⟨rfl, n18, rfl⟩; have K18 := Lib.hid (K17.out.step (drewN_b _ n18)); skip)
    | (go_at_call 33; refine (ksector' K16.out 99 _ (by decide) hc).mono ?_; rintro e w17 ⟨v17, rfl, hk, ho, hf⟩; have K17 := Lib.hid hk; have O17 := Lib.hid ho; have O11 := Lib.hid (hf.own O11.out (by decide) (by decide) (by decide)); clear hk ho hf)
    | (go_at_call 16; refine (ksame O10.out la O15.out la).mono ?_; rintro e w16 ⟨rfl, n16, rfl⟩; have K16 := Lib.hid (K15.out.step (drewN_b _ n16)); have O11 := Lib.hid (own_of_same (w' := w15.drewN n16) O11.out (fun _ _ => rfl)))
    | (go_at_call 33; refine (ksector' K14.out 97 _ (by decide) ha).mono ?_; rintro e w15 ⟨v15, rfl, hk, ho, hf⟩; have K15 := Lib.hid hk; have O15 := Lib.hid ho; have O10 := Lib.hid (hf.own O10.out (by decide) (by decide) (by decide)); have O11 := Lib.hid (hf.own O11.out (by decide) (by decide) (by decide)); clear hk ho hf)
    | (go_at_call 16; refine (ksame O8.out lb' O13.out lb').mono ?_; rintro e w14 ⟨rfl, n14, rfl⟩; have K14 := Lib.hid (K13.out.step (drewN_b _ n14)); have O10 := Lib.hid (own_of_same (w' := w13.drewN n14) O10.out (fun _ _ => rfl)); have O11 := Lib.hid (own_of_same (w' := w13.drewN n14) O11.out (fun _ _ => rfl)))
    | (go_at_call 33; refine (ksector' K12.out 98 _ (by decide) hb).mono ?_; rintro e w13 ⟨v13, rfl, hk, ho, hf⟩; have K13 := Lib.hid hk; have O13 := Lib.hid ho; have O8 := Lib.hid (hf.own O8.out (by decide) (by decide) (by decide)); have O10 := Lib.hid (hf.own O10.out (by decide) (by decide) (by decide)); have O11 := Lib.hid (hf.own O11.out (by decide) (by decide) (by decide)); clear hk ho hf)
    | (go_at_call 36; refine (kcounts K11.out).mono ?_; rintro e w12 ⟨he, hk, hf⟩; have he : e = .returned (.agg #[.int .i64 3, .int .i64 3, .int .i64 0]) := he; subst he; have K12 := Lib.hid hk; have O8 := Lib.hid (hf.own O8.out (by decide) (by decide) (by decide)); have O10 := Lib.hid (hf.own O10.out (by decide) (by decide) (by decide)); have O11 := Lib.hid (hf.own O11.out (by decide) (by decide) (by decide)); clear hk hf)
    | (go_at_call 39; refine (cread K10.out ⟨by simp, by simp, by simp, by simp⟩ 1 (by simp) sc rfl).mono ?_; rintro e w11 ⟨v11, rfl, hk, ho, _, hf⟩; have K11 : Hid (Kd w w11 B lb bm (calm [sa, sc] [] 3 3)) := Lib.hid hk; have O11 := Lib.hid ho; have O8 := Lib.hid (hf.own O8.out (by decide) (by decide) (by decide)); have O10 := Lib.hid (hf.own O10.out (by decide) (by decide) (by decide)); clear hk ho hf)
    | (go_at_call 39; refine (cread K9.out ⟨by simp, by simp, by simp, by simp⟩ 0 (by simp) sa rfl).mono ?_; rintro e w10 ⟨v10, rfl, hk, ho, _, hf⟩; have K10 : Hid (Kd w w10 B lb bm (calm [sa, sc] [] 2 3)) := Lib.hid hk; have O10 := Lib.hid ho; have O8 := Lib.hid (hf.own O8.out (by decide) (by decide) (by decide)); clear hk ho hf)
    | (go_at_call 38; refine (ccut (K8.out.step ((Below.refl _ _).alloc (Nat.le_refl _) _)) ⟨by simp, by simp, by simp, by simp⟩ _ [true, false, true] (fun W hW => keep3 w8 W hW) [sa, sc] rfl).mono ?_; rintro e w9 ⟨rfl, hk, hf⟩; have K9 : Hid (Kd w w9 B lb bm (calm [sa, sc] [] 1 3)) := Lib.hid hk; have O8 := Lib.hid (hf.own (O8.out.alloc _) (by decide) (by decide) (by decide)); clear hk hf)
    | (go_at_call 39; refine (cread K7.out ⟨by simp, by simp, by simp, by simp⟩ 0 (by simp) sb rfl).mono ?_; rintro e w8 ⟨v8, rfl, hk, ho, _, hf⟩; have K8 : Hid (Kd w w8 B lb bm (calm [sz, sz] [(0, sa), (0, sb), (1, sc)] 1 3)) := Lib.hid hk; have O8 := Lib.hid ho; clear hk ho hf)
    | (go_at_call 32; refine (cwrite K6.out ⟨by simp, by simp, by simp, by simp⟩ 1 (by simp) v6 _ lc _ O6.out).mono ?_; rintro e w7 ⟨rfl, hk, hf⟩; have K7 : Hid (Kd w w7 B lb bm (calm [sz, sz] [(0, sa), (0, sb), (1, sc)] 0 3)) := Lib.hid hk; clear hk hf)
    | (go_at_call 33; refine (ksector' K5.out 99 _ (by decide) hc).mono ?_; rintro e w6 ⟨v6, rfl, hk, ho, hf⟩; have K6 := Lib.hid hk; have O6 := Lib.hid ho; clear hk ho hf)
    | (go_at_call 32; refine (cwrite K4.out ⟨by simp, by simp, by simp, by simp⟩ 0 (by simp) v4 _ lb' _ O4.out).mono ?_; rintro e w5 ⟨rfl, hk, hf⟩; have K5 : Hid (Kd w w5 B lb bm (calm [sz, sz] [(0, sa), (0, sb)] 0 2)) := Lib.hid hk; clear hk hf)
    | (go_at_call 33; refine (ksector' K3.out 98 _ (by decide) hb).mono ?_; rintro e w4 ⟨v4, rfl, hk, ho, hf⟩; have K4 := Lib.hid hk; have O4 := Lib.hid ho; clear hk ho hf)
    | (go_at_call 32; refine (cwrite K2.out ⟨by simp, by simp, by simp, by simp⟩ 0 (by simp) v2 _ la _ O2.out).mono ?_; rintro e w3 ⟨rfl, hk, hf⟩; have K3 : Hid (Kd w w3 B lb bm (calm [sz, sz] [(0, sa)] 0 1)) := Lib.hid hk; clear hk hf)
    | (go_at_call 33; refine (ksector' K1.out 97 _ (by decide) ha).mono ?_; rintro e w2 ⟨v2, rfl, hk, ho, hf⟩; have K2 := Lib.hid hk; have O2 := Lib.hid ho; clear hk ho hf)
    | (go_at_call 29; refine (knew w 2 (by omega) (by omega)).mono ?_; rintro e w1 ⟨B, lb, bm, rfl, hk⟩; have K1 : Hid (Kd w w1 B lb bm (calm [sz, sz] [] 0 0)) := Lib.hid (by rw [← hz]; exact hk); clear hk))
  go_ret
  exact ⟨rfl, K18.out.2⟩
end Go.Proofs.Ytnplcfgjidolbaa
