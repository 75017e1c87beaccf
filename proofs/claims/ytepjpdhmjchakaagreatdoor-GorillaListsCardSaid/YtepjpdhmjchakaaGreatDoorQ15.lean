import Derived.Test.YtepjpdhmjchakaaGreatDoorQ10
import Derived.Test.YtepjpdhmjchakaaGreatDoorQ11
import Derived.Test.YtepjpdhmjchakaaGreatDoorQ5
import Derived.Test.YtepjpdhmjchakaaGreatDoorQ12
import Derived.Test.YtepjpdhmjchakaaGreatDoorQ1
/- The document's All: a chunk's samples, if it is one. Condition: the document's list of buckets (BkAt). Printed by genrx3.py out of Rx3.src. -/
namespace Go.Proofs.YtepjpdhmjchakaaGreatDoor
open Go.RowKit
set_option linter.unusedVariables false

theorem rdo_not {c : Cki} (h : Gz.decN (Bt.unpack c.d) (c.n.toNat - 1) = none) : rdo c = none := by
  refine rdo_none.2 ?_
  rintro ⟨ls, _, _, d, h1, _⟩
  rw [h] at h1
  cases h1
/-- What All says of a chunk. -/
theorem GaPost.no {w w' : World} {c : Cki} {e : Ending} (he : e = .returned (.tuple #[.slice none 0 0, .bool false])) (h : rdo c = none) (hb : Below w.heap.size w w') : GaPost w c e w' :=
  ⟨⟨false, [], _, he, World.ownsRow_nil _ _ _ _, by simp, by simp, .inr ⟨rfl, h⟩⟩, hb⟩
theorem Xd.grow {w w1 : World} {B at_ lo hi : Nat} {v : Value} {L : List Bool} (h : Xd w B v at_ L lo hi) {r : Option Nat} (g : w.grownBy w1 r) (hh : hi ≤ w.heap.size) (hB : B < hi) (hr : ∀ k, r = some k → hi ≤ k) : Xd w1 B v at_ L lo hi :=
  ⟨(g.block B (by omega) (fun e => by have := hr B e.symm; omega)).trans h.cells, h.data.same (fun k h1 h2 => g.block k (by omega) (fun e => by have := hr k e.symm; omega)), h.apart, h.le, h.len⟩
theorem dec_no1x {U : List Bool} {j N : Nat} {d : Gz.Ds} {ls : List Gz.Smp} (hd : Gz.decN U j = some (d, ls)) (hs : Gz.stepD U (j + 1) d = none) (hN : j + 1 ≤ N) : Gz.decN U N = none := Gz.dec_none (dec_no1 hd hs) hN
theorem dec_no2x {U : List Bool} {j s2 a3 N : Nat} {d : Gz.Ds} {ls : List Gz.Smp} (hd : Gz.decN U j = some (d, ls)) (hs : Gz.stepD U (j + 1) d = some (s2, a3)) (hn : Gz.numD U d.win a3 = none) (hN : j + 1 ≤ N) : Gz.decN U N = none := Gz.dec_none (dec_no2 hd hs hn) hN
theorem xor_shl (v y R : Nat) (hv : v < 18446744073709551616) : bits .xor .u64 (v : Int) (IntKind.u64.wrap ((y : Int) * 2 ^ R)) = ((v ^^^ (y * 2 ^ R % 18446744073709551616) : Nat) : Int) := by
  have e : IntKind.u64.wrap ((y : Int) * 2 ^ R) = ((y * 2 ^ R % 18446744073709551616 : Nat) : Int) := by
    rw [IntKind.wrap_u64, Int.natCast_emod, Int.natCast_mul, Int.natCast_pow]; rfl
  rw [e]
  exact bits_xor_u64_nat _ _ hv (Nat.mod_lt _ (by decide))

set_option maxRecDepth 100000 in
theorem xall_out (w : World) (c : Cki) (u : Value) (hN : ¬ (1 ≤ c.n ∧ c.n ≤ 120)) :
    Calls Tryz.prog 31 #[.agg #[.int .i64 c.f, .int .i64 c.t, .int .i64 c.n, u]] w fun e w' => GaPost w c e w' := by
  obtain ⟨Wa, hWa⟩ : ∃ Wa, w.alloc (.cells #[.int .i64 c.f, .int .i64 c.t, .int .i64 c.n, u] 26) = Wa := ⟨_, rfl⟩
  have hba : Below w.heap.size w Wa := by rw [← hWa]; exact (Below.refl _ _).alloc (Nat.le_refl _) _
  have hbx : Wa.heap[w.heap.size]? = some (.cells #[.int .i64 c.f, .int .i64 c.t, .int .i64 c.n, u] 26 (0, 0)) := by rw [← hWa]; exact heap_alloc_new w _
  obtain ⟨k0, k1, k2, k3, kz⟩ := box4 hbx
  have HBA := Lib.hid hba
  have HNO := Lib.hid (show rdo c = none from rdo_none.2 (fun ⟨ls, h3, h4, _⟩ => hN ⟨h3, h4⟩))
  clear hba hbx
  by_cases h1 : c.n < 1
  · have g1 : decide (c.n < 1) = true := decide_eq_true h1
    clear hN h1
    go_enter Tryz.func31, Tryz.ntmps31
    go_wp2
    go_ret2
    exact GaPost.no rfl HNO.out HBA.out
  · have g1 : decide (c.n < 1) = false := decide_eq_false h1
    have g2 : decide (120 < c.n) = true := decide_eq_true (by omega)
    clear hN h1
    go_enter Tryz.func31, Tryz.ntmps31
    go_wp2
    go_ret2
    exact GaPost.no rfl HNO.out HBA.out

set_option maxHeartbeats 40000000 in
set_option maxRecDepth 100000 in
theorem xall_in (w : World) (c : Cki) (u : Value) (lo hi : Nat) (hu : Sl lo hi f8 w u c.d) (hhi : hi ≤ w.heap.size) (hN : 1 ≤ c.n ∧ c.n ≤ 120) (hl : c.d.length ≤ 1000000) {b o c' b0 o0 c0 b1 o1 c1 b2 o2 c2 : Nat} (hk : BkAt w.heap.size w b o c' b0 o0 c0 b1 o1 c1 b2 o2 c2) :
    Calls Tryz.prog 31 #[.agg #[.int .i64 c.f, .int .i64 c.t, .int .i64 c.n, u]] w fun e w' => GaPost w c e w' := by
  obtain ⟨i0, hi0, hz0, hz1, hz2⟩ := info_parts infoSm4
  obtain ⟨Wa, hWa⟩ : ∃ Wa, w.alloc (.cells #[.int .i64 c.f, .int .i64 c.t, .int .i64 c.n, u] 26) = Wa := ⟨_, rfl⟩
  have hba : Below w.heap.size w Wa := by rw [← hWa]; exact (Below.refl _ _).alloc (Nat.le_refl _) _
  have hbx : Wa.heap[w.heap.size]? = some (.cells #[.int .i64 c.f, .int .i64 c.t, .int .i64 c.n, u] 26 (0, 0)) := by rw [← hWa]; exact heap_alloc_new w _
  have hsa : Wa.heap.size = w.heap.size + 1 := by rw [← hWa]; simp
  obtain ⟨k0, k1, k2, k3, kz⟩ := box4 hbx
  have HBA := Lib.hid hba
  have HBX := Lib.hid hbx
  have HU := Lib.hid (hu.below hba hhi)
  have HSA := Lib.hid hsa
  have HK := Lib.hid (hk.below hba)
  obtain ⟨au, cu, rfl, _⟩ := hu
  obtain ⟨N, hNN⟩ := Int.eq_ofNat_of_zero_le (show 0 ≤ c.n by omega)
  have hN1 : 1 ≤ N ∧ N ≤ 120 := by omega
  have HNN := Lib.hid hNN
  rw [hNN] at k2 hWa
  clear hba hbx hsa hk hNN hN
  have g1 : decide ((N : Int) < 1) = false := decide_eq_false (by omega)
  have g2 : decide (120 < (N : Int)) = false := decide_eq_false (by omega)
  rw [HNN.out]
  go_enter Tryz.func31, Tryz.ntmps31
  go_wp2_with fail
  refine Calls.mono (by exact xread_any lo hi Wa _ c.d HU.out (by have := HSA.out; omega) hl) ?_
  rintro e w1 ⟨v', rfl, hx1, hb1⟩
  have HX1 := Lib.hid hx1
  have HB1 := Lib.hid hb1
  have hs1 := hb1.size
  have hBl : Wa.heap.size < w1.heap.size := xheap_lt hx1.cells
  clear hx1 hb1
  obtain ⟨B, hB⟩ : ∃ B, Wa.heap.size = B := ⟨_, rfl⟩
  rw [hB] at HX1 HB1 hs1 hBl ⊢
  have HBS := Lib.hid hB
  clear hB
  go_wp2_with fail
  refine Calls.mono (by exact xnextsigned_c HX1.out) ?_
  rintro e w2 ⟨t0, er2, a2, rfl, ht0, hx2, hg2, hc2⟩
  have HX2 := Lib.hid hx2
  have HG2 := Lib.hid hg2
  have HC2 := Lib.hid hc2
  clear hx2 hg2 hc2
  go_wp2_with fail
  refine Calls.mono (by exact xnext_c HX2.out 64 (by decide) _ rfl) ?_
  rintro e w3 ⟨x3, a3, er3, hx3l, rfl, hx3, hg3, hc3⟩
  have HX3 := Lib.hid hx3
  have HG3 := Lib.hid (HG2.out.trans hg3 (Anew.refl _ _))
  have HC3 := Lib.hid hc3
  clear hx3 hg3 hc3
  have HB3 := Lib.hid (show Below (w.heap.size + 1) Wa w3 from (HB1.out.mono (by have := HSA.out; have := HBS.out; omega)).trans (HG3.out.below (by have := HSA.out; have := HBS.out; omega) (by have := HSA.out; have := HBS.out; omega) (by simp)))
  have HBW3 := Lib.hid (HBA.out.trans (HB3.out.mono (by omega)))
  by_cases he2 : er2 = 0
  · by_cases he3 : er3 = 0
    · subst he2 he3
      obtain ⟨d, hd, hda, hdt, hdv, hds, hdw⟩ : ∃ d, Gz.decN (Bt.unpack c.d) 0 = some (d, [⟨t0, x3⟩]) ∧ d.at_ = a3 ∧ d.t = t0 ∧ d.v = x3 ∧ d.step = 0 ∧ d.win = (0, 0) := by
        rcases HC2.out with ⟨_, x, h1, h2⟩ | ⟨h1, _⟩
        · rcases HC3.out with ⟨_, h3⟩ | ⟨h3, _⟩
          · refine ⟨⟨a3, un x, x3, 0, (0, 0)⟩, ?_, rfl, h2.symm, rfl, rfl, rfl⟩
            rw [h2]
            exact first_ok h1 h3
          · omega
        · omega
      have HD := Lib.hid hd
      have HDA := Lib.hid (And.intro hda (And.intro hdt (And.intro hdv (And.intro hds hdw))))
      clear hd hda hdt hdv hds hdw
      go_wp2_with fail
      go_loopw [5, 7, 9, 10, 11, 12] (fun t v out step left right wr => ∃ (m : Nat) (ls : List Gz.Smp) (dat : Nat) (dt : Int) (dv dst dp dq : Nat), 1 ≤ m ∧ m ≤ N ∧ Gz.decN (Bt.unpack c.d) (m - 1) = some (⟨dat, dt, dv, dst, (dp, dq)⟩, ls) ∧ t = .int .i64 dt ∧ v = .int .u64 (dv : Int) ∧ step = .int .u64 (dst : Int) ∧ left = .int .i64 (dp : Int) ∧ right = .int .i64 (dq : Int) ∧
        wr.ownsRow w1.heap.size 79 2 out m (smCs ls) ∧ Xd wr B v' dat (Bt.unpack c.d) (B + 1) w1.heap.size ∧ Below (w.heap.size + 1) Wa wr ∧ w1.heap.size ≤ wr.heap.size) (fun _ _ out _ _ _ _ => N - lenOf out)
      case atStart =>
        obtain ⟨h1, h2, h3, h4, h5⟩ := HDA.out
        obtain ⟨dat, dt, dv, dst, dp, dq⟩ := d
        dsimp only at h1 h2 h3 h4 h5
        injection h5 with h5 h6
        subst h1 h2 h3 h4 h5 h6
        have hs5 := HG3.out.size
        have hs6 := HSA.out
        have hs7 := HBS.out
        exact ⟨1, [⟨dt, dv⟩], dat, dt, dv, 0, 0, 0, Nat.le_refl _, hN1.1, HD.out, rfl, rfl, rfl, rfl, rfl, own_lit dt dv (by omega), HX3.out.below (al_b w3 _) (by omega) (by omega), HB3.out.alloc (by omega) _, by simp; omega⟩
      case round =>
        obtain ⟨m, ls, dat, dt, dv, dst, dp, dq, hm1, hmN, hd, rfl, rfl, rfl, rfl, rfl, hown, hxd, hbel, hsr⟩ := hrel
        obtain ⟨j, rfl⟩ : ∃ j, m = j + 1 := ⟨m - 1, by omega⟩
        rw [Nat.add_sub_cancel] at hd
        have hdk := Gz.dec_dk _ _ _ _ hd
        have hdt : -9223372036854775808 ≤ dt ∧ dt ≤ 9223372036854775807 := hdk.t
        have hdv : dv < 18446744073709551616 := hdk.v
        have hdw : dp + dq ≤ 63 := hdk.win
        have HALL := Lib.hid hdk.all
        have HLEN := Lib.hid hdk.len
        obtain ⟨al, cl, rfl⟩ := own_slice hown
        obtain ⟨b0', b1', b2', b3', bz'⟩ := box4 ((hbel.block w.heap.size (by omega)).trans HBX.out)
        rw [HNN.out] at b2'
        have HOW := Lib.hid hown
        have HXD := Lib.hid hxd
        have HBE := Lib.hid hbel
        have HDN := Lib.hid hd
        have hBw : w.heap.size + 1 ≤ B ∧ B ≤ w.heap.size + 1 := by have := HBS.out; have := HSA.out; omega
        have hol : ∀ q, (Value.slice al (j + 1) cl).ownBlock = some q → w1.heap.size ≤ q ∧ q < wr.heap.size := fun q hq => hown.lt q hq
        have HOL := Lib.hid hol
        clear hown hxd hbel hd hdk hol k0 k1 k2 k3 kz HX3 HG3 HC3 HB3 HBW3 HX2 HG2 HC2 HD HDA
        by_cases hlt : j + 1 < N
        · have gm : decide (((j + 1 : Nat) : Int) < (N : Int)) = true := decide_eq_true (by omega)
          by_cases hj : j = 0
          · subst hj
            go_wp2_with fail
            refine Calls.mono (by exact xnextvarint_c HXD.out) ?_
            rintro e wv ⟨s2, erv, av, hs2, rfl, hxv, hgv, hcv⟩
            have HXV := Lib.hid hxv
            have HGV := Lib.hid hgv
            have HCV := Lib.hid (show (erv = 0 ∧ Gz.stepD (Bt.unpack c.d) (0 + 1) ⟨dat, dt, dv, dst, (dp, dq)⟩ = some (s2, av)) ∨ (erv ≠ 0 ∧ Gz.stepD (Bt.unpack c.d) (0 + 1) ⟨dat, dt, dv, dst, (dp, dq)⟩ = none) by
              unfold Gz.stepD
              rw [if_pos rfl]
              rcases hcv with ⟨h1, h2⟩ | ⟨h1, h2, _⟩
              · exact .inl ⟨h1, by rw [h2]⟩
              · exact .inr ⟨h1, by rw [h2]⟩)
            clear hxv hgv hcv
            clear b0' b1' b2' b3' bz' HU HK HX1 HB1 HBX
            have hsv := HGV.out.size
            have HBV := Lib.hid (HBE.out.trans (HGV.out.below (B := w.heap.size + 1) (by omega) (by omega) (by simp)))
            have HBVW := Lib.hid (HBA.out.trans (HBV.out.mono (by omega)))
            have HGW := HGV
            by_cases hev : erv = 0
            · subst hev
              have HST := Lib.hid (show Gz.stepD (Bt.unpack c.d) (0 + 1) ⟨dat, dt, dv, dst, (dp, dq)⟩ = some (s2, av) by
                rcases HCV.out with ⟨_, h⟩ | ⟨h, _⟩
                · exact h
                · exact absurd rfl h)
              obtain ⟨T, hT⟩ : ∃ T, wrap64 (dt + (s2 : Int)) = T := ⟨_, rfl⟩
              have ht13 := time_eq dt s2 hdt
              rw [hT] at ht13
              have HT := Lib.hid hT
              have HGV := Lib.hid (Gro.refl B none wv)
              clear HCV hT
              go_wp2_with fail
              refine Calls.mono (by exact xnext_c HXV.out 1 (by omega) _ rfl) ?_
              rintro e wa ⟨xa, aa, era, hla, rfl, hxa, hga, hca⟩
              have HXa := Lib.hid hxa
              have HGa := Lib.hid (HGV.out.trans hga (Anew.refl _ _))
              clear hxa hga
              rcases hca with ⟨rfl, qa⟩ | ⟨rfl, qa, rfl, haea⟩
              · rcases (by have := rdk_one qa; omega : xa = 0 ∨ xa = 1) with rfl | rfl
                · have HNUM := Lib.hid (show Gz.numD (Bt.unpack c.d) (dp, dq) av = some (0, (dp, dq), aa) by
                      unfold Gz.numD
                      rw [qa]
                      simp only [Option.bind_some, if_true])
                  obtain ⟨X, hX⟩ : ∃ X : Nat, dv ^^^ (0) = X := ⟨_, rfl⟩
                  have hXl : X < 18446744073709551616 := by rw [← hX]; exact Gz.xor_lt hdv (Gz.numD_fits (win := (dp, dq)) hdw HNUM.out).1
                  have HDE := Lib.hid (dec_step HDN.out HST.out HNUM.out)
                  have hst2 := HGa.out.size
                  have HOZ := Lib.hid (own_of_same HOW.out (fun q hq => (HGW.out.trans HGa.out (Anew.refl _ _)).block q (HOL.out q hq).2 (by have := HOL.out q hq; omega) (by simp)))
                  have HBZ := Lib.hid (HBV.out.trans (HGa.out.below (B := w.heap.size + 1) (by omega) (by omega) (by simp)))
                  have hxor : X = dv := by rw [← hX]; exact Nat.xor_zero dv
                  subst hxor
                  have HX := Lib.hid hX
                  clear hX
                  go_wp2_with (at_builtin; refine wpList_append_own _ rfl (.tmp 150) (.tmp 154) 22 rfl w1.heap.size 79 i0 (.agg #[.int .i64 0, .int .u64 0]) 2 16 Tryz.underlying22 hi0 hz0 hz1 hz2 rfl (by decide) _ _ _ rfl (HOZ.out.alloc _) ⟨wa.heap.size, 0, none⟩ 1 1 [.int .i64 T, .int .u64 (X : Int)] rfl rfl (news_alloc wa [.int .i64 T, .int .u64 (X : Int)] 79) (by simp [Value.oneCell']) (by unfold maxLen; omega) (by omega) (by simp; omega) ?_; intro v9 w9 hown9 hgrow9 _; obtain ⟨g9, c9, rfl, _, _⟩ := own_shape hown9 (by omega); have HO9 := Lib.hid hown9; have HG9 := Lib.hid hgrow9; clear hown9 hgrow9)
                  go_roundw
                  case rel =>
                    have hs9 := HG9.out.size
                    simp at hs9
                    refine ⟨0 + 1 + 1, ls ++ [⟨T, X⟩], aa, T, X, s2, dp, dq, by omega, by omega, ?_, rfl, rfl, rfl, rfl, rfl, by rw [smCs_snoc]; exact HO9.out, ?_, ?_, by omega⟩
                    · have := HDE.out
                      rw [HX.out, HT.out] at this
                      exact this
                    · exact (HXa.out.below (al_b wa _) (by omega) (by omega)).grow HG9.out (by simp; omega) (by omega) (fun q hq => (HOL.out q hq).1)
                    · exact (HBZ.out.alloc (by omega) _).grown HG9.out (by simp; omega) (fun q hq => by have := HOL.out q hq; omega)
                  case measure => simp [lenOf]; omega
                · go_wp2_with fail
                  refine Calls.mono (by exact xnext_c HXa.out 1 (by omega) _ rfl) ?_
                  rintro e wb ⟨xb, ab, erb, hlb, rfl, hxb, hgb, hcb⟩
                  have HXb := Lib.hid hxb
                  have HGb := Lib.hid (HGa.out.trans hgb (Anew.refl _ _))
                  clear hxb hgb
                  rcases hcb with ⟨rfl, qb⟩ | ⟨rfl, qb, rfl, haeb⟩
                  · rcases (by have := rdk_one qb; omega : xb = 0 ∨ xb = 1) with rfl | rfl
                    · go_wp2_with fail
                      refine Calls.mono (by exact xnext_c HXb.out (64 - dp - dq) (by omega) _ (by omega)) ?_
                      rintro e wc ⟨xc, ac, erc, hlc, rfl, hxc, hgc, hcc⟩
                      have HXc := Lib.hid hxc
                      have HGc := Lib.hid (HGb.out.trans hgc (Anew.refl _ _))
                      clear hxc hgc
                      rcases hcc with ⟨rfl, qc⟩ | ⟨rfl, qc, rfl, haec⟩
                      · have HNUM := Lib.hid (show Gz.numD (Bt.unpack c.d) (dp, dq) av = some (xc * 2 ^ dq % 18446744073709551616, (dp, dq), ac) by
                            unfold Gz.numD
                            rw [qa]
                            simp only [Option.bind_some]
                            rw [if_neg (by decide)]
                            rw [qb]
                            simp only [Option.bind_some, if_true]
                            rw [qc]
                            rfl)
                        obtain ⟨X, hX⟩ : ∃ X : Nat, dv ^^^ (xc * 2 ^ dq % 18446744073709551616) = X := ⟨_, rfl⟩
                        have hXl : X < 18446744073709551616 := by rw [← hX]; exact Gz.xor_lt hdv (Gz.numD_fits (win := (dp, dq)) hdw HNUM.out).1
                        have HDE := Lib.hid (dec_step HDN.out HST.out HNUM.out)
                        have hst2 := HGc.out.size
                        have HOZ := Lib.hid (own_of_same HOW.out (fun q hq => (HGW.out.trans HGc.out (Anew.refl _ _)).block q (HOL.out q hq).2 (by have := HOL.out q hq; omega) (by simp)))
                        have HBZ := Lib.hid (HBV.out.trans (HGc.out.below (B := w.heap.size + 1) (by omega) (by omega) (by simp)))
                        have hxor := xor_shl dv xc dq hdv
                        rw [hX] at hxor
                        have HX := Lib.hid hX
                        clear hX
                        go_wp2_with (at_builtin; refine wpList_append_own _ rfl (.tmp 150) (.tmp 154) 22 rfl w1.heap.size 79 i0 (.agg #[.int .i64 0, .int .u64 0]) 2 16 Tryz.underlying22 hi0 hz0 hz1 hz2 rfl (by decide) _ _ _ rfl (HOZ.out.alloc _) ⟨wc.heap.size, 0, none⟩ 1 1 [.int .i64 T, .int .u64 (X : Int)] rfl rfl (news_alloc wc [.int .i64 T, .int .u64 (X : Int)] 79) (by simp [Value.oneCell']) (by unfold maxLen; omega) (by omega) (by simp; omega) ?_; intro v9 w9 hown9 hgrow9 _; obtain ⟨g9, c9, rfl, _, _⟩ := own_shape hown9 (by omega); have HO9 := Lib.hid hown9; have HG9 := Lib.hid hgrow9; clear hown9 hgrow9)
                        go_roundw
                        case rel =>
                          have hs9 := HG9.out.size
                          simp at hs9
                          refine ⟨0 + 1 + 1, ls ++ [⟨T, X⟩], ac, T, X, s2, dp, dq, by omega, by omega, ?_, rfl, rfl, rfl, rfl, rfl, by rw [smCs_snoc]; exact HO9.out, ?_, ?_, by omega⟩
                          · have := HDE.out
                            rw [HX.out, HT.out] at this
                            exact this
                          · exact (HXc.out.below (al_b wc _) (by omega) (by omega)).grow HG9.out (by simp; omega) (by omega) (fun q hq => (HOL.out q hq).1)
                          · exact (HBZ.out.alloc (by omega) _).grown HG9.out (by simp; omega) (fun q hq => by have := HOL.out q hq; omega)
                        case measure => simp [lenOf]; omega
                      · have HNO := Lib.hid (show rdo c = none from rdo_not (dec_no2x HDN.out HST.out (by
                            unfold Gz.numD
                            rw [qa]
                            simp only [Option.bind_some]
                            rw [if_neg (by decide)]
                            rw [qb]
                            simp only [Option.bind_some, if_true]
                            rw [qc]
                            rfl) (by rw [HNN.out]; omega)))
                        go_wp2_with fail
                        go_ret2
                        exact GaPost.no rfl HNO.out (HBVW.out.trans (HGc.out.below (B := w.heap.size) (by omega) (by omega) (by simp)))
                    · go_wp2_with fail
                      refine Calls.mono (by exact xnext_c HXb.out 5 (by omega) _ rfl) ?_
                      rintro e wl ⟨xl, al, erl, hll, rfl, hxl, hgl, hcl⟩
                      have HXl := Lib.hid hxl
                      have HGl := Lib.hid (HGb.out.trans hgl (Anew.refl _ _))
                      clear hxl hgl
                      go_wp2_with fail
                      refine Calls.mono (by exact xnext_c HXl.out 6 (by omega) _ rfl) ?_
                      rintro e wr ⟨xr, ar, err, hlr, rfl, hxr, hgr, hcr⟩
                      have HXr := Lib.hid hxr
                      have HGr := Lib.hid (HGl.out.trans hgr (Anew.refl _ _))
                      clear hxr hgr
                      rcases hcl with ⟨rfl, ql⟩ | ⟨rfl, ql, rfl, hael⟩
                      · rcases hcr with ⟨rfl, qr⟩ | ⟨rfl, qr, rfl, haer⟩
                        · have hl5 : xl < 32 := rdk_32 ql
                          have hr6 : xr < 64 := rdk_64 qr
                          by_cases hneg : 63 < xl + xr
                          · have gq : decide ((63 : Int) - (xl : Int) - (xr : Int) < 0) = true := decide_eq_true (by omega)
                            have HNO := Lib.hid (show rdo c = none from rdo_not (dec_no2x HDN.out HST.out (by
                                unfold Gz.numD
                                rw [qa]
                                simp only [Option.bind_some]
                                rw [if_neg (by decide)]
                                rw [qb]
                                simp only [Option.bind_some]
                                rw [if_neg (by decide)]
                                rw [ql]
                                simp only [Option.bind_some]
                                rw [qr]
                                simp only [Option.bind_some]
                                rw [if_pos hneg]) (by rw [HNN.out]; omega)))
                            go_wp2_with fail
                            go_ret2
                            exact GaPost.no rfl HNO.out (HBVW.out.trans (HGr.out.below (B := w.heap.size) (by omega) (by omega) (by simp)))
                          · obtain ⟨R, hR⟩ : ∃ R : Nat, 63 - xl - xr = R := ⟨_, rfl⟩
                            have hR2 : (63 : Int) - (xl : Int) - (xr : Int) = (R : Int) := by omega
                            have hRl : R ≤ 63 := by omega
                            have hxR : xl + R ≤ 63 := by omega
                            have gq : decide (((R : Nat) : Int) < 0) = false := decide_eq_false (by omega)
                            have HR := Lib.hid hR
                            clear hR
                            go_wp2_with fail
                            refine Calls.mono (by exact xnext_c HXr.out (64 - xl - R) (by omega) _ (by omega)) ?_
                            rintro e wc ⟨xc, ac, erc, hlc, rfl, hxc, hgc, hcc⟩
                            have HXc := Lib.hid hxc
                            have HGc := Lib.hid (HGr.out.trans hgc (Anew.refl _ _))
                            clear hxc hgc
                            rcases hcc with ⟨rfl, qc⟩ | ⟨rfl, qc, rfl, haec⟩
                            · have HNUM := Lib.hid (show Gz.numD (Bt.unpack c.d) (dp, dq) av = some (xc * 2 ^ R % 18446744073709551616, (xl, R), ac) by
                                  unfold Gz.numD
                                  rw [qa]
                                  simp only [Option.bind_some]
                                  rw [if_neg (by decide)]
                                  rw [qb]
                                  simp only [Option.bind_some]
                                  rw [if_neg (by decide)]
                                  rw [ql]
                                  simp only [Option.bind_some]
                                  rw [qr]
                                  simp only [Option.bind_some]
                                  rw [if_neg hneg, HR.out, qc]
                                  rfl)
                              obtain ⟨X, hX⟩ : ∃ X : Nat, dv ^^^ (xc * 2 ^ R % 18446744073709551616) = X := ⟨_, rfl⟩
                              have hXl : X < 18446744073709551616 := by rw [← hX]; exact Gz.xor_lt hdv (Gz.numD_fits (win := (dp, dq)) hdw HNUM.out).1
                              have HDE := Lib.hid (dec_step HDN.out HST.out HNUM.out)
                              have hst2 := HGc.out.size
                              have HOZ := Lib.hid (own_of_same HOW.out (fun q hq => (HGW.out.trans HGc.out (Anew.refl _ _)).block q (HOL.out q hq).2 (by have := HOL.out q hq; omega) (by simp)))
                              have HBZ := Lib.hid (HBV.out.trans (HGc.out.below (B := w.heap.size + 1) (by omega) (by omega) (by simp)))
                              have hxor := xor_shl dv xc R hdv
                              rw [hX] at hxor
                              have HX := Lib.hid hX
                              clear hX
                              go_wp2_with (at_builtin; refine wpList_append_own _ rfl (.tmp 150) (.tmp 154) 22 rfl w1.heap.size 79 i0 (.agg #[.int .i64 0, .int .u64 0]) 2 16 Tryz.underlying22 hi0 hz0 hz1 hz2 rfl (by decide) _ _ _ rfl (HOZ.out.alloc _) ⟨wc.heap.size, 0, none⟩ 1 1 [.int .i64 T, .int .u64 (X : Int)] rfl rfl (news_alloc wc [.int .i64 T, .int .u64 (X : Int)] 79) (by simp [Value.oneCell']) (by unfold maxLen; omega) (by omega) (by simp; omega) ?_; intro v9 w9 hown9 hgrow9 _; obtain ⟨g9, c9, rfl, _, _⟩ := own_shape hown9 (by omega); have HO9 := Lib.hid hown9; have HG9 := Lib.hid hgrow9; clear hown9 hgrow9)
                              go_roundw
                              case rel =>
                                have hs9 := HG9.out.size
                                simp at hs9
                                refine ⟨0 + 1 + 1, ls ++ [⟨T, X⟩], ac, T, X, s2, xl, R, by omega, by omega, ?_, rfl, rfl, rfl, rfl, rfl, by rw [smCs_snoc]; exact HO9.out, ?_, ?_, by omega⟩
                                · have := HDE.out
                                  rw [HX.out, HT.out] at this
                                  exact this
                                · exact (HXc.out.below (al_b wc _) (by omega) (by omega)).grow HG9.out (by simp; omega) (by omega) (fun q hq => (HOL.out q hq).1)
                                · exact (HBZ.out.alloc (by omega) _).grown HG9.out (by simp; omega) (fun q hq => by have := HOL.out q hq; omega)
                              case measure => simp [lenOf]; omega
                            · have HNO := Lib.hid (show rdo c = none from rdo_not (dec_no2x HDN.out HST.out (by
                                  unfold Gz.numD
                                  rw [qa]
                                  simp only [Option.bind_some]
                                  rw [if_neg (by decide)]
                                  rw [qb]
                                  simp only [Option.bind_some]
                                  rw [if_neg (by decide)]
                                  rw [ql]
                                  simp only [Option.bind_some]
                                  rw [qr]
                                  simp only [Option.bind_some]
                                  rw [if_neg hneg, HR.out, qc]
                                  rfl) (by rw [HNN.out]; omega)))
                              go_wp2_with fail
                              go_ret2
                              exact GaPost.no rfl HNO.out (HBVW.out.trans (HGc.out.below (B := w.heap.size) (by omega) (by omega) (by simp)))
                        · have HNO := Lib.hid (show rdo c = none from rdo_not (dec_no2x HDN.out HST.out (by
                              unfold Gz.numD
                              rw [qa]
                              simp only [Option.bind_some]
                              rw [if_neg (by decide)]
                              rw [qb]
                              simp only [Option.bind_some]
                              rw [if_neg (by decide)]
                              rw [ql]
                              simp only [Option.bind_some]
                              rw [qr]
                              rfl) (by rw [HNN.out]; omega)))
                          go_wp2_with fail
                          go_ret2
                          exact GaPost.no rfl HNO.out (HBVW.out.trans (HGr.out.below (B := w.heap.size) (by omega) (by omega) (by simp)))
                      · have hr6 : xr < 64 := by
                          rcases hcr with ⟨_, h⟩ | ⟨_, _, h, _⟩
                          · exact rdk_64 h
                          · omega
                        clear hcr
                        have HNO := Lib.hid (show rdo c = none from rdo_not (dec_no2x HDN.out HST.out (by
                            unfold Gz.numD
                            rw [qa]
                            simp only [Option.bind_some]
                            rw [if_neg (by decide)]
                            rw [qb]
                            simp only [Option.bind_some]
                            rw [if_neg (by decide)]
                            rw [ql]
                            rfl) (by rw [HNN.out]; omega)))
                        go_wp2_with fail
                        go_ret2
                        exact GaPost.no rfl HNO.out (HBVW.out.trans (HGr.out.below (B := w.heap.size) (by omega) (by omega) (by simp)))
                  · go_wp2_with fail
                    refine Calls.mono (by exact xnext_c HXb.out (64 - dp - dq) (by omega) _ (by omega)) ?_
                    rintro e wc ⟨xc, ac, erc, hlc, rfl, hxc, hgc, hcc⟩
                    have HXc := Lib.hid hxc
                    have HGc := Lib.hid (HGb.out.trans hgc (Anew.refl _ _))
                    clear hxc hgc
                    have hcn : erc = 20 ∧ xc = 0 := by
                      rcases hcc with ⟨_, h⟩ | ⟨h1, _, h2, _⟩
                      · unfold Gz.rdk at h qb
                        rw [haeb] at h
                        split at qb
                        · rw [if_pos (by omega)] at h; cases h
                        · cases qb
                      · exact ⟨h1, h2⟩
                    obtain ⟨rfl, rfl⟩ := hcn
                    clear hcc
                    have HNO := Lib.hid (show rdo c = none from rdo_not (dec_no2x HDN.out HST.out (by
                        unfold Gz.numD
                        rw [qa]
                        simp only [Option.bind_some]
                        rw [if_neg (by decide)]
                        rw [qb]
                        rfl) (by rw [HNN.out]; omega)))
                    go_wp2_with fail
                    go_ret2
                    exact GaPost.no rfl HNO.out (HBVW.out.trans (HGc.out.below (B := w.heap.size) (by omega) (by omega) (by simp)))
              · have HNO := Lib.hid (show rdo c = none from rdo_not (dec_no2x HDN.out HST.out (by
                    unfold Gz.numD
                    rw [qa]
                    rfl) (by rw [HNN.out]; omega)))
                go_wp2_with fail
                go_ret2
                exact GaPost.no rfl HNO.out (HBVW.out.trans (HGa.out.below (B := w.heap.size) (by omega) (by omega) (by simp)))
            · have ge : ((erv : Int) != 0) = true := by simp; omega
              have HNO := Lib.hid (show rdo c = none from rdo_not (by
                rcases HCV.out with ⟨h, _⟩ | ⟨_, h⟩
                · exact absurd h hev
                · exact dec_no1x HDN.out h (by rw [HNN.out]; omega)))
              clear hev
              go_wp2_with fail
              go_ret2
              exact GaPost.no rfl HNO.out HBVW.out
          · have g9 : (((j + 1 : Nat) : Int) == 1) = false := by simp; omega
            go_wp2_with fail
            refine Calls.mono (by exact xchange_c HXD.out (HK.out.below (HBE.out.mono (by omega))) (by omega)) ?_
            rintro e wv ⟨xc, erv, av, hxc, rfl, hxv, hgv, hcv⟩
            have HXV := Lib.hid hxv
            have HGV := Lib.hid hgv
            obtain ⟨s2, hs2e, hs2d⟩ : ∃ s2 : Nat, Hid (IntKind.u64.wrap ((dst : Int) + (xc : Int)) = (s2 : Int)) ∧ s2 = (dst + xc) % 18446744073709551616 := ⟨_, Lib.hid (by rw [IntKind.wrap_u64, Int.natCast_emod, Int.natCast_add]; rfl), rfl⟩
            have hs2 : s2 < 18446744073709551616 := by omega
            have HCV := Lib.hid (show (erv = 0 ∧ Gz.stepD (Bt.unpack c.d) (j + 1) ⟨dat, dt, dv, dst, (dp, dq)⟩ = some (s2, av)) ∨ (erv ≠ 0 ∧ Gz.stepD (Bt.unpack c.d) (j + 1) ⟨dat, dt, dv, dst, (dp, dq)⟩ = none) by
              unfold Gz.stepD
              rw [if_neg (by omega)]
              rcases hcv with ⟨h1, h2⟩ | ⟨h1, h2⟩
              · exact .inl ⟨h1, by rw [h2, hs2d]; rfl⟩
              · exact .inr ⟨h1, by rw [h2]; rfl⟩)
            have hs2f := hs2e.out
            clear hxv hgv hcv hs2d
            clear b0' b1' b2' b3' bz' HU HK HX1 HB1 HBX
            have hsv := HGV.out.size
            have HBV := Lib.hid (HBE.out.trans (HGV.out.below (B := w.heap.size + 1) (by omega) (by omega) (by simp)))
            have HBVW := Lib.hid (HBA.out.trans (HBV.out.mono (by omega)))
            have HGW := HGV
            by_cases hev : erv = 0
            · subst hev
              have HST := Lib.hid (show Gz.stepD (Bt.unpack c.d) (j + 1) ⟨dat, dt, dv, dst, (dp, dq)⟩ = some (s2, av) by
                rcases HCV.out with ⟨_, h⟩ | ⟨h, _⟩
                · exact h
                · exact absurd rfl h)
              obtain ⟨T, hT⟩ : ∃ T, wrap64 (dt + (s2 : Int)) = T := ⟨_, rfl⟩
              have ht13 := time_eq dt s2 hdt
              rw [hT] at ht13
              have HT := Lib.hid hT
              have HGV := Lib.hid (Gro.refl B none wv)
              clear HCV hT
              go_wp2_with fail
              refine Calls.mono (by exact xnext_c HXV.out 1 (by omega) _ rfl) ?_
              rintro e wa ⟨xa, aa, era, hla, rfl, hxa, hga, hca⟩
              have HXa := Lib.hid hxa
              have HGa := Lib.hid (HGV.out.trans hga (Anew.refl _ _))
              clear hxa hga
              rcases hca with ⟨rfl, qa⟩ | ⟨rfl, qa, rfl, haea⟩
              · rcases (by have := rdk_one qa; omega : xa = 0 ∨ xa = 1) with rfl | rfl
                · have HNUM := Lib.hid (show Gz.numD (Bt.unpack c.d) (dp, dq) av = some (0, (dp, dq), aa) by
                      unfold Gz.numD
                      rw [qa]
                      simp only [Option.bind_some, if_true])
                  obtain ⟨X, hX⟩ : ∃ X : Nat, dv ^^^ (0) = X := ⟨_, rfl⟩
                  have hXl : X < 18446744073709551616 := by rw [← hX]; exact Gz.xor_lt hdv (Gz.numD_fits (win := (dp, dq)) hdw HNUM.out).1
                  have HDE := Lib.hid (dec_step HDN.out HST.out HNUM.out)
                  have hst2 := HGa.out.size
                  have HOZ := Lib.hid (own_of_same HOW.out (fun q hq => (HGW.out.trans HGa.out (Anew.refl _ _)).block q (HOL.out q hq).2 (by have := HOL.out q hq; omega) (by simp)))
                  have HBZ := Lib.hid (HBV.out.trans (HGa.out.below (B := w.heap.size + 1) (by omega) (by omega) (by simp)))
                  have hxor : X = dv := by rw [← hX]; exact Nat.xor_zero dv
                  subst hxor
                  have HX := Lib.hid hX
                  clear hX
                  go_wp2_with (at_builtin; refine wpList_append_own _ rfl (.tmp 150) (.tmp 154) 22 rfl w1.heap.size 79 i0 (.agg #[.int .i64 0, .int .u64 0]) 2 16 Tryz.underlying22 hi0 hz0 hz1 hz2 rfl (by decide) _ _ _ rfl (HOZ.out.alloc _) ⟨wa.heap.size, 0, none⟩ 1 1 [.int .i64 T, .int .u64 (X : Int)] rfl rfl (news_alloc wa [.int .i64 T, .int .u64 (X : Int)] 79) (by simp [Value.oneCell']) (by unfold maxLen; omega) (by omega) (by simp; omega) ?_; intro v9 w9 hown9 hgrow9 _; obtain ⟨g9, c9, rfl, _, _⟩ := own_shape hown9 (by omega); have HO9 := Lib.hid hown9; have HG9 := Lib.hid hgrow9; clear hown9 hgrow9)
                  go_roundw
                  case rel =>
                    have hs9 := HG9.out.size
                    simp at hs9
                    refine ⟨j + 1 + 1, ls ++ [⟨T, X⟩], aa, T, X, s2, dp, dq, by omega, by omega, ?_, rfl, rfl, rfl, rfl, rfl, by rw [smCs_snoc]; exact HO9.out, ?_, ?_, by omega⟩
                    · have := HDE.out
                      rw [HX.out, HT.out] at this
                      exact this
                    · exact (HXa.out.below (al_b wa _) (by omega) (by omega)).grow HG9.out (by simp; omega) (by omega) (fun q hq => (HOL.out q hq).1)
                    · exact (HBZ.out.alloc (by omega) _).grown HG9.out (by simp; omega) (fun q hq => by have := HOL.out q hq; omega)
                  case measure => simp [lenOf]; omega
                · go_wp2_with fail
                  refine Calls.mono (by exact xnext_c HXa.out 1 (by omega) _ rfl) ?_
                  rintro e wb ⟨xb, ab, erb, hlb, rfl, hxb, hgb, hcb⟩
                  have HXb := Lib.hid hxb
                  have HGb := Lib.hid (HGa.out.trans hgb (Anew.refl _ _))
                  clear hxb hgb
                  rcases hcb with ⟨rfl, qb⟩ | ⟨rfl, qb, rfl, haeb⟩
                  · rcases (by have := rdk_one qb; omega : xb = 0 ∨ xb = 1) with rfl | rfl
                    · go_wp2_with fail
                      refine Calls.mono (by exact xnext_c HXb.out (64 - dp - dq) (by omega) _ (by omega)) ?_
                      rintro e wc ⟨xc, ac, erc, hlc, rfl, hxc, hgc, hcc⟩
                      have HXc := Lib.hid hxc
                      have HGc := Lib.hid (HGb.out.trans hgc (Anew.refl _ _))
                      clear hxc hgc
                      rcases hcc with ⟨rfl, qc⟩ | ⟨rfl, qc, rfl, haec⟩
                      · have HNUM := Lib.hid (show Gz.numD (Bt.unpack c.d) (dp, dq) av = some (xc * 2 ^ dq % 18446744073709551616, (dp, dq), ac) by
                            unfold Gz.numD
                            rw [qa]
                            simp only [Option.bind_some]
                            rw [if_neg (by decide)]
                            rw [qb]
                            simp only [Option.bind_some, if_true]
                            rw [qc]
                            rfl)
                        obtain ⟨X, hX⟩ : ∃ X : Nat, dv ^^^ (xc * 2 ^ dq % 18446744073709551616) = X := ⟨_, rfl⟩
                        have hXl : X < 18446744073709551616 := by rw [← hX]; exact Gz.xor_lt hdv (Gz.numD_fits (win := (dp, dq)) hdw HNUM.out).1
                        have HDE := Lib.hid (dec_step HDN.out HST.out HNUM.out)
                        have hst2 := HGc.out.size
                        have HOZ := Lib.hid (own_of_same HOW.out (fun q hq => (HGW.out.trans HGc.out (Anew.refl _ _)).block q (HOL.out q hq).2 (by have := HOL.out q hq; omega) (by simp)))
                        have HBZ := Lib.hid (HBV.out.trans (HGc.out.below (B := w.heap.size + 1) (by omega) (by omega) (by simp)))
                        have hxor := xor_shl dv xc dq hdv
                        rw [hX] at hxor
                        have HX := Lib.hid hX
                        clear hX
                        go_wp2_with (at_builtin; refine wpList_append_own _ rfl (.tmp 150) (.tmp 154) 22 rfl w1.heap.size 79 i0 (.agg #[.int .i64 0, .int .u64 0]) 2 16 Tryz.underlying22 hi0 hz0 hz1 hz2 rfl (by decide) _ _ _ rfl (HOZ.out.alloc _) ⟨wc.heap.size, 0, none⟩ 1 1 [.int .i64 T, .int .u64 (X : Int)] rfl rfl (news_alloc wc [.int .i64 T, .int .u64 (X : Int)] 79) (by simp [Value.oneCell']) (by unfold maxLen; omega) (by omega) (by simp; omega) ?_; intro v9 w9 hown9 hgrow9 _; obtain ⟨g9, c9, rfl, _, _⟩ := own_shape hown9 (by omega); have HO9 := Lib.hid hown9; have HG9 := Lib.hid hgrow9; clear hown9 hgrow9)
                        go_roundw
                        case rel =>
                          have hs9 := HG9.out.size
                          simp at hs9
                          refine ⟨j + 1 + 1, ls ++ [⟨T, X⟩], ac, T, X, s2, dp, dq, by omega, by omega, ?_, rfl, rfl, rfl, rfl, rfl, by rw [smCs_snoc]; exact HO9.out, ?_, ?_, by omega⟩
                          · have := HDE.out
                            rw [HX.out, HT.out] at this
                            exact this
                          · exact (HXc.out.below (al_b wc _) (by omega) (by omega)).grow HG9.out (by simp; omega) (by omega) (fun q hq => (HOL.out q hq).1)
                          · exact (HBZ.out.alloc (by omega) _).grown HG9.out (by simp; omega) (fun q hq => by have := HOL.out q hq; omega)
                        case measure => simp [lenOf]; omega
                      · have HNO := Lib.hid (show rdo c = none from rdo_not (dec_no2x HDN.out HST.out (by
                            unfold Gz.numD
                            rw [qa]
                            simp only [Option.bind_some]
                            rw [if_neg (by decide)]
                            rw [qb]
                            simp only [Option.bind_some, if_true]
                            rw [qc]
                            rfl) (by rw [HNN.out]; omega)))
                        go_wp2_with fail
                        go_ret2
                        exact GaPost.no rfl HNO.out (HBVW.out.trans (HGc.out.below (B := w.heap.size) (by omega) (by omega) (by simp)))
                    · go_wp2_with fail
                      refine Calls.mono (by exact xnext_c HXb.out 5 (by omega) _ rfl) ?_
                      rintro e wl ⟨xl, al, erl, hll, rfl, hxl, hgl, hcl⟩
                      have HXl := Lib.hid hxl
                      have HGl := Lib.hid (HGb.out.trans hgl (Anew.refl _ _))
                      clear hxl hgl
                      go_wp2_with fail
                      refine Calls.mono (by exact xnext_c HXl.out 6 (by omega) _ rfl) ?_
                      rintro e wr ⟨xr, ar, err, hlr, rfl, hxr, hgr, hcr⟩
                      have HXr := Lib.hid hxr
                      have HGr := Lib.hid (HGl.out.trans hgr (Anew.refl _ _))
                      clear hxr hgr
                      rcases hcl with ⟨rfl, ql⟩ | ⟨rfl, ql, rfl, hael⟩
                      · rcases hcr with ⟨rfl, qr⟩ | ⟨rfl, qr, rfl, haer⟩
                        · have hl5 : xl < 32 := rdk_32 ql
                          have hr6 : xr < 64 := rdk_64 qr
                          by_cases hneg : 63 < xl + xr
                          · have gq : decide ((63 : Int) - (xl : Int) - (xr : Int) < 0) = true := decide_eq_true (by omega)
                            have HNO := Lib.hid (show rdo c = none from rdo_not (dec_no2x HDN.out HST.out (by
                                unfold Gz.numD
                                rw [qa]
                                simp only [Option.bind_some]
                                rw [if_neg (by decide)]
                                rw [qb]
                                simp only [Option.bind_some]
                                rw [if_neg (by decide)]
                                rw [ql]
                                simp only [Option.bind_some]
                                rw [qr]
                                simp only [Option.bind_some]
                                rw [if_pos hneg]) (by rw [HNN.out]; omega)))
                            go_wp2_with fail
                            go_ret2
                            exact GaPost.no rfl HNO.out (HBVW.out.trans (HGr.out.below (B := w.heap.size) (by omega) (by omega) (by simp)))
                          · obtain ⟨R, hR⟩ : ∃ R : Nat, 63 - xl - xr = R := ⟨_, rfl⟩
                            have hR2 : (63 : Int) - (xl : Int) - (xr : Int) = (R : Int) := by omega
                            have hRl : R ≤ 63 := by omega
                            have hxR : xl + R ≤ 63 := by omega
                            have gq : decide (((R : Nat) : Int) < 0) = false := decide_eq_false (by omega)
                            have HR := Lib.hid hR
                            clear hR
                            go_wp2_with fail
                            refine Calls.mono (by exact xnext_c HXr.out (64 - xl - R) (by omega) _ (by omega)) ?_
                            rintro e wc ⟨xc, ac, erc, hlc, rfl, hxc, hgc, hcc⟩
                            have HXc := Lib.hid hxc
                            have HGc := Lib.hid (HGr.out.trans hgc (Anew.refl _ _))
                            clear hxc hgc
                            rcases hcc with ⟨rfl, qc⟩ | ⟨rfl, qc, rfl, haec⟩
                            · have HNUM := Lib.hid (show Gz.numD (Bt.unpack c.d) (dp, dq) av = some (xc * 2 ^ R % 18446744073709551616, (xl, R), ac) by
                                  unfold Gz.numD
                                  rw [qa]
                                  simp only [Option.bind_some]
                                  rw [if_neg (by decide)]
                                  rw [qb]
                                  simp only [Option.bind_some]
                                  rw [if_neg (by decide)]
                                  rw [ql]
                                  simp only [Option.bind_some]
                                  rw [qr]
                                  simp only [Option.bind_some]
                                  rw [if_neg hneg, HR.out, qc]
                                  rfl)
                              obtain ⟨X, hX⟩ : ∃ X : Nat, dv ^^^ (xc * 2 ^ R % 18446744073709551616) = X := ⟨_, rfl⟩
                              have hXl : X < 18446744073709551616 := by rw [← hX]; exact Gz.xor_lt hdv (Gz.numD_fits (win := (dp, dq)) hdw HNUM.out).1
                              have HDE := Lib.hid (dec_step HDN.out HST.out HNUM.out)
                              have hst2 := HGc.out.size
                              have HOZ := Lib.hid (own_of_same HOW.out (fun q hq => (HGW.out.trans HGc.out (Anew.refl _ _)).block q (HOL.out q hq).2 (by have := HOL.out q hq; omega) (by simp)))
                              have HBZ := Lib.hid (HBV.out.trans (HGc.out.below (B := w.heap.size + 1) (by omega) (by omega) (by simp)))
                              have hxor := xor_shl dv xc R hdv
                              rw [hX] at hxor
                              have HX := Lib.hid hX
                              clear hX
                              go_wp2_with (at_builtin; refine wpList_append_own _ rfl (.tmp 150) (.tmp 154) 22 rfl w1.heap.size 79 i0 (.agg #[.int .i64 0, .int .u64 0]) 2 16 Tryz.underlying22 hi0 hz0 hz1 hz2 rfl (by decide) _ _ _ rfl (HOZ.out.alloc _) ⟨wc.heap.size, 0, none⟩ 1 1 [.int .i64 T, .int .u64 (X : Int)] rfl rfl (news_alloc wc [.int .i64 T, .int .u64 (X : Int)] 79) (by simp [Value.oneCell']) (by unfold maxLen; omega) (by omega) (by simp; omega) ?_; intro v9 w9 hown9 hgrow9 _; obtain ⟨g9, c9, rfl, _, _⟩ := own_shape hown9 (by omega); have HO9 := Lib.hid hown9; have HG9 := Lib.hid hgrow9; clear hown9 hgrow9)
                              go_roundw
                              case rel =>
                                have hs9 := HG9.out.size
                                simp at hs9
                                refine ⟨j + 1 + 1, ls ++ [⟨T, X⟩], ac, T, X, s2, xl, R, by omega, by omega, ?_, rfl, rfl, rfl, rfl, rfl, by rw [smCs_snoc]; exact HO9.out, ?_, ?_, by omega⟩
                                · have := HDE.out
                                  rw [HX.out, HT.out] at this
                                  exact this
                                · exact (HXc.out.below (al_b wc _) (by omega) (by omega)).grow HG9.out (by simp; omega) (by omega) (fun q hq => (HOL.out q hq).1)
                                · exact (HBZ.out.alloc (by omega) _).grown HG9.out (by simp; omega) (fun q hq => by have := HOL.out q hq; omega)
                              case measure => simp [lenOf]; omega
                            · have HNO := Lib.hid (show rdo c = none from rdo_not (dec_no2x HDN.out HST.out (by
                                  unfold Gz.numD
                                  rw [qa]
                                  simp only [Option.bind_some]
                                  rw [if_neg (by decide)]
                                  rw [qb]
                                  simp only [Option.bind_some]
                                  rw [if_neg (by decide)]
                                  rw [ql]
                                  simp only [Option.bind_some]
                                  rw [qr]
                                  simp only [Option.bind_some]
                                  rw [if_neg hneg, HR.out, qc]
                                  rfl) (by rw [HNN.out]; omega)))
                              go_wp2_with fail
                              go_ret2
                              exact GaPost.no rfl HNO.out (HBVW.out.trans (HGc.out.below (B := w.heap.size) (by omega) (by omega) (by simp)))
                        · have HNO := Lib.hid (show rdo c = none from rdo_not (dec_no2x HDN.out HST.out (by
                              unfold Gz.numD
                              rw [qa]
                              simp only [Option.bind_some]
                              rw [if_neg (by decide)]
                              rw [qb]
                              simp only [Option.bind_some]
                              rw [if_neg (by decide)]
                              rw [ql]
                              simp only [Option.bind_some]
                              rw [qr]
                              rfl) (by rw [HNN.out]; omega)))
                          go_wp2_with fail
                          go_ret2
                          exact GaPost.no rfl HNO.out (HBVW.out.trans (HGr.out.below (B := w.heap.size) (by omega) (by omega) (by simp)))
                      · have hr6 : xr < 64 := by
                          rcases hcr with ⟨_, h⟩ | ⟨_, _, h, _⟩
                          · exact rdk_64 h
                          · omega
                        clear hcr
                        have HNO := Lib.hid (show rdo c = none from rdo_not (dec_no2x HDN.out HST.out (by
                            unfold Gz.numD
                            rw [qa]
                            simp only [Option.bind_some]
                            rw [if_neg (by decide)]
                            rw [qb]
                            simp only [Option.bind_some]
                            rw [if_neg (by decide)]
                            rw [ql]
                            rfl) (by rw [HNN.out]; omega)))
                        go_wp2_with fail
                        go_ret2
                        exact GaPost.no rfl HNO.out (HBVW.out.trans (HGr.out.below (B := w.heap.size) (by omega) (by omega) (by simp)))
                  · go_wp2_with fail
                    refine Calls.mono (by exact xnext_c HXb.out (64 - dp - dq) (by omega) _ (by omega)) ?_
                    rintro e wc ⟨xc, ac, erc, hlc, rfl, hxc, hgc, hcc⟩
                    have HXc := Lib.hid hxc
                    have HGc := Lib.hid (HGb.out.trans hgc (Anew.refl _ _))
                    clear hxc hgc
                    have hcn : erc = 20 ∧ xc = 0 := by
                      rcases hcc with ⟨_, h⟩ | ⟨h1, _, h2, _⟩
                      · unfold Gz.rdk at h qb
                        rw [haeb] at h
                        split at qb
                        · rw [if_pos (by omega)] at h; cases h
                        · cases qb
                      · exact ⟨h1, h2⟩
                    obtain ⟨rfl, rfl⟩ := hcn
                    clear hcc
                    have HNO := Lib.hid (show rdo c = none from rdo_not (dec_no2x HDN.out HST.out (by
                        unfold Gz.numD
                        rw [qa]
                        simp only [Option.bind_some]
                        rw [if_neg (by decide)]
                        rw [qb]
                        rfl) (by rw [HNN.out]; omega)))
                    go_wp2_with fail
                    go_ret2
                    exact GaPost.no rfl HNO.out (HBVW.out.trans (HGc.out.below (B := w.heap.size) (by omega) (by omega) (by simp)))
              · have HNO := Lib.hid (show rdo c = none from rdo_not (dec_no2x HDN.out HST.out (by
                    unfold Gz.numD
                    rw [qa]
                    rfl) (by rw [HNN.out]; omega)))
                go_wp2_with fail
                go_ret2
                exact GaPost.no rfl HNO.out (HBVW.out.trans (HGa.out.below (B := w.heap.size) (by omega) (by omega) (by simp)))
            · have ge : ((erv : Int) != 0) = true := by simp; omega
              have HNO := Lib.hid (show rdo c = none from rdo_not (by
                rcases HCV.out with ⟨h, _⟩ | ⟨_, h⟩
                · exact absurd h hev
                · exact dec_no1x HDN.out h (by rw [HNN.out]; omega)))
              clear hev
              go_wp2_with fail
              go_ret2
              exact GaPost.no rfl HNO.out HBVW.out
        · obtain rfl : N = j + 1 := by omega
          have gm : decide (((j + 1 : Nat) : Int) < ((j + 1 : Nat) : Int)) = false := decide_eq_false (by omega)
          have hls : ls.length = j + 1 := HLEN.out
          obtain ⟨al', cl', hsv, hsms⟩ := Sms.owns (l := ls) (by rw [hls]; exact HOW.out) (by unfold maxLen; omega) HALL.out
          rw [hls] at hsv
          injection hsv with q1 q2 q3
          subst q1 q3
          have HSM := Lib.hid hsms
          have HDE : Hid (Gz.decN (Bt.unpack c.d) (c.n.toNat - 1) = some (⟨dat, dt, dv, dst, (dp, dq)⟩, ls)) := Lib.hid (by rw [HNN.out, show (((j + 1 : Nat) : Int).toNat - 1) = j by omega]; exact HDN.out)
          have HCN := Lib.hid (show 1 ≤ c.n ∧ c.n ≤ 120 by rw [HNN.out]; omega)
          have HFIT := Lib.hid (fitE_fine (l := ls) (fun s hs => (HALL.out s hs).2) (by omega))
          have HBW := Lib.hid (HBA.out.trans (HBE.out.mono (by omega)))
          have HUW := Lib.hid (HU.out.below HBE.out (by omega))
          have HKW := Lib.hid ((HK.out.below (HBE.out.mono (by omega))).mono (show w.heap.size ≤ wr.heap.size by omega))
          clear hsms
          have HFC := xfits_any wr.heap.size wr al cl ls HSM.out
          rw [hls] at HFC
          go_wp2_with fail
          refine Calls.mono (by exact HFC) ?_
          rintro e wf ⟨rfl, nf, rfl⟩
          by_cases hE : fitE ls = 0
          · have HF := Lib.hid (HFIT.out.1 hE)
            rw [hE]
            clear hE
            go_wp2_with fail
            have HCC := xchunk_any wr.heap.size (wr.drewN nf) al cl ls (HSM.out.below (drewN_b wr nf) (Nat.le_refl _)) (Nat.le_refl _) HF.out (by omega) (HKW.out.below (drewN_b wr nf))
            rw [hls] at HCC
            refine Calls.mono (by exact HCC) ?_
            rintro e w8 ⟨v8, rfl, ho8, hb8⟩
            unfold chV
            obtain ⟨a8, c8, rfl⟩ := own_slice ho8
            have HO8 := Lib.hid ho8
            have HB8 := Lib.hid ((drewN_b wr nf).trans (hb8.mono (Nat.le_refl _)))
            clear ho8 hb8
            generalize hF1 : (Gz.Ap.all ls).first = F1 at *
            generalize hT1 : (Gz.Ap.all ls).t = T1 at *
            generalize hD1 : Bt.pack (Gz.Ap.all ls).L = D1 at *
            obtain ⟨w9, hW9⟩ : ∃ w9, w8.alloc (.cells #[.int .i64 F1, .int .i64 T1, .int .i64 ((j : Int) + 1), .slice a8 D1.length c8] 26) = w9 := ⟨_, rfl⟩
            have hb9 : Below w8.heap.size w8 w9 := by rw [← hW9]; exact (Below.refl _ _).alloc (Nat.le_refl _) _
            have hx9 : w9.heap[w8.heap.size]? = some (.cells #[.int .i64 F1, .int .i64 T1, .int .i64 ((j : Int) + 1), .slice a8 D1.length c8] 26 (0, 0)) := by rw [← hW9]; exact heap_alloc_new w8 _
            have hs8 := HB8.out.size
            have hs89 := hb9.size
            have hb89 : Below wr.heap.size wr w9 := HB8.out.trans (hb9.mono hs8)
            have n0 := (hb89.cell (p := ⟨w.heap.size, 0, none⟩) (show w.heap.size < wr.heap.size by omega)).trans b0'
            have n1 := (hb89.cell (p := ⟨w.heap.size, 1, none⟩) (show w.heap.size < wr.heap.size by omega)).trans b1'
            have n3 := (hb89.cell (p := ⟨w.heap.size, 3, none⟩) (show w.heap.size < wr.heap.size by omega)).trans b3'
            obtain ⟨m0, m1, m2, m3, mz⟩ := box4 hx9
            have HBZ := Lib.hid (HBW.out.trans (hb89.mono (by omega)))
            have hsz9 := HBZ.out.size
            have HOZ := Lib.hid (own_of_same HOW.out (fun q hq => hb89.block q (HOL.out q hq).2))
            have hDl : D1.length ≤ 140737488355328 := by
              have h3 := Bt.pack_len (Gz.Ap.all ls).L
              have h4 := (Gz.all_has _ ls rfl HF.out).1.len
              have h5 := (Gz.all_has _ ls rfl HF.out).1.n
              rw [hD1] at h3
              omega
            obtain ⟨_, _, he1, hk1⟩ := ((Sl.owns HO8.out hDl).below hb9 (Nat.le_refl _)).mono (Nat.zero_le _) (Nat.le_refl _)
            injection he1 with he1 _ he3
            subst he1 he3
            obtain ⟨_, _, he1, hk2⟩ := HUW.out.below hb89 (by omega)
            injection he1 with he1 _ he3
            subst he1 he3
            have HK1 := Lib.hid hk1
            have HK2 := Lib.hid hk2
            have hnot : ∀ ls', RdOk c.f c.t c.n c.d ls' → ls' = ls ∧ F1 = c.f ∧ T1 = c.t ∧ D1 = c.d := by
              rintro ls' ⟨_, _, d', hd', _, e1, e2, e3⟩
              rw [HDE.out] at hd'
              injection hd' with hd'
              injection hd' with _ hd'
              subst hd'
              exact ⟨rfl, hF1.symm.trans e1, hT1.symm.trans e2, hD1.symm.trans e3⟩
            have HN := Lib.hid hnot
            have HLN := Lib.hid hls
            have HFIT2 := Lib.hid (show ∀ s ∈ ls, (-9223372036854775808 ≤ s.t ∧ s.t ≤ 9223372036854775807) ∧ s.v < 18446744073709551616 from HALL.out)
            have HNOT := Lib.hid (show (∃ ls', RdOk c.f c.t c.n c.d ls' ∧ ¬ (F1 = c.f ∧ T1 = c.t ∧ D1 = c.d)) → False from fun ⟨ls', h1, h2⟩ => h2 (HN.out ls' h1).2)
            have HRS := Lib.hid (show (F1 = c.f ∧ T1 = c.t ∧ D1 = c.d) → rdo c = some ls from fun ⟨e1, e2, e3⟩ => rdo_some.2 ⟨HCN.out.1, HCN.out.2, _, HDE.out, HF.out, hF1.trans e1, hT1.trans e2, hD1.trans e3⟩)
            have HRN := Lib.hid (show ¬ (F1 = c.f ∧ T1 = c.t ∧ D1 = c.d) → rdo c = none from fun h => rdo_none.2 (fun ⟨ls', h'⟩ => h (HN.out ls' h').2))
            have END : ∀ (b : Bool) (n : Nat), ((b = true ∧ rdo c = some ls) ∨ (b = false ∧ rdo c = none)) → GaPost w c (.returned (.tuple #[.slice al (j + 1) cl, .bool b])) (w9.drewN n) := fun b n h =>
              ⟨⟨b, ls, _, rfl, by rw [HLN.out]; exact own_low (own_of_same HOZ.out (fun q _ => rfl)) (by omega), HFIT2.out, by have := HLN.out; omega, h⟩, HBZ.out.trans ((drewN_b w9 n).mono (by omega))⟩
            have HEND := Lib.hid END
            generalize hcf : c.f = cf at *
            generalize hct : c.t = ct at *
            generalize hcd : c.d = cd at *
            clear hb9 hx9 hb89 hnot hk1 hk2 END HO8 HB8 HCC HFC b0' b1' b3' hF1 hT1 hD1 hls
            by_cases hF : F1 = cf
            · by_cases hTT : T1 = ct
              · have k1 : ∀ n, (convert 24 9 (.slice a8 D1.length c8)).run Tryz.prog (w9.drewN n) = .ok (.string (strB D1)) (w9.drewN n) := fun n => conv_sl (HK1.out.below (drewN_b w9 n) hs89)
                have k2 : ∀ n, (convert 24 9 (.slice au cd.length cu)).run Tryz.prog (w9.drewN n) = .ok (.string (strB cd)) (w9.drewN n) := fun n => conv_sl (HK2.out.below (drewN_b w9 n) (by omega))
                have gF : (F1 == cf) = true := by simpa using hF
                have gT : (T1 == ct) = true := by simpa using hTT
                by_cases hDD : D1 = cd
                · have HR := Lib.hid (HRS.out ⟨hF, hTT, hDD⟩)
                  have gD : ((strB D1).toList == (strB cd).toList) = true := by rw [hDD]; simp
                  clear hF hTT hDD
                  go_wp2_with fail
                  go_quiet (fail)
                  go_wp2_with fail
                  go_ret2
                  exact HEND.out true _ (.inl ⟨rfl, HR.out⟩)
                · have HR := Lib.hid (HRN.out (fun h => hDD h.2.2))
                  have gD : ((strB D1).toList == (strB cd).toList) = false := by rw [strB_list, strB_list]; simpa using hDD
                  clear hF hTT hDD
                  go_wp2_with fail
                  go_quiet (fail)
                  go_wp2_with fail
                  go_ret2
                  exact HEND.out false _ (.inr ⟨rfl, HR.out⟩)
              · have HR := Lib.hid (HRN.out (fun h => hTT h.2.1))
                have gF : (F1 == cf) = true := by simpa using hF
                have gT : (T1 == ct) = false := by simpa using hTT
                clear hF hTT
                go_wp2_with fail
                go_quiet (fail)
                go_wp2_with fail
                go_ret2
                exact HEND.out false _ (.inr ⟨rfl, HR.out⟩)
            · have HR := Lib.hid (HRN.out (fun h => hF h.1))
              have gF : (F1 == cf) = false := by simpa using hF
              clear hF
              go_wp2_with fail
              go_quiet (fail)
              go_wp2_with fail
              go_ret2
              exact HEND.out false _ (.inr ⟨rfl, HR.out⟩)
          · have ge : (fitE ls != 0) = true := by simpa using hE
            have HNO := Lib.hid (show rdo c = none from rdo_none.2 (by
              rintro ⟨ls', _, _, d', hd', hf', _⟩
              rw [HDE.out] at hd'
              injection hd' with hd'
              injection hd' with _ hd'
              subst hd'
              exact hE (HFIT.out.2 hf')))
            clear hE
            go_wp2_with fail
            go_ret2
            exact GaPost.no rfl HNO.out (HBW.out.trans ((drewN_b wr nf).mono (by omega)))
    · have ge : ((er3 : Int) != 0) = true := by simp; omega
      subst he2
      have HNO := Lib.hid (show rdo c = none from rdo_not (Gz.dec_none (k := 0) (by
        rcases HC2.out with ⟨_, x, h1, h2⟩ | ⟨h1, _⟩
        · rcases HC3.out with ⟨h3, _⟩ | ⟨_, h3, _⟩
          · exact absurd h3 he3
          · exact first_no2 h1 h3
        · exact absurd rfl h1) (Nat.zero_le _)))
      clear he3
      go_wp2_with fail
      go_ret2
      exact GaPost.no rfl HNO.out HBW3.out
  · have ge : ((er2 : Int) != 0) = true := by simp; omega
    have HNO := Lib.hid (show rdo c = none from rdo_not (Gz.dec_none (k := 0) (by
      rcases HC2.out with ⟨h1, _⟩ | ⟨_, h1⟩
      · exact absurd h1 he2
      · exact first_no1 h1) (Nat.zero_le _)))
    clear he2
    go_wp2_with fail
    go_ret2
    exact GaPost.no rfl HNO.out HBW3.out
theorem xall_any (w : World) (c : Cki) (u : Value) (lo hi : Nat) (hu : Sl lo hi f8 w u c.d) (hhi : hi ≤ w.heap.size) (hl : c.d.length ≤ 1000000) {b o c' b0 o0 c0 b1 o1 c1 b2 o2 c2 : Nat} (hk : BkAt w.heap.size w b o c' b0 o0 c0 b1 o1 c1 b2 o2 c2) :
    Calls Tryz.prog 31 #[.agg #[.int .i64 c.f, .int .i64 c.t, .int .i64 c.n, u]] w fun e w' => GaPost w c e w' := by
  by_cases hN : 1 ≤ c.n ∧ c.n ≤ 120
  · exact xall_in w c u lo hi hu hhi hN hl hk
  · exact xall_out w c u hN
end Go.Proofs.YtepjpdhmjchakaaGreatDoor
