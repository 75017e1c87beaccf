/- The walk of FrameTurned. No condition. -/
import Derived.Test.YtckmeomhcikmoaaFrKnown
import Derived.Test.YtckmeomhcikmoaaWCrcBursts
namespace Go.Proofs.Ytckmeomhcikmoaa.frameTurned
open Go.RowKit
open Go.Proofs.Ytckmeomhcikmoaa.crcBursts (xor_bit8 bit_test)
set_option maxRecDepth 100000
set_option maxHeartbeats 4000000

theorem ORow.ones {w : World} {base : Nat} {v : Value} {vs : List Value} {rows : List (List UInt8)} (h : ORow w base v vs rows) : ∀ u ∈ vs.map fv, u.oneCell' = true := by
  intro u hu
  rw [map_fv] at hu
  obtain ⟨i, hi⟩ := List.getElem?_of_mem hu
  obtain ⟨r, _, h2⟩ := h.at hi
  obtain ⟨_, _, rfl⟩ := own_slice h2
  rfl
/-- A list of rows of which one has been laid anew. -/
theorem rws_set {w w' : World} {base B K n lo : Nat} {v vS x : Value} {vs : List Value} {rows : List (List UInt8)} {X : List UInt8} (h : ORow w base v vs rows) (hb : Below B w w') (hB : w.heap.size ≤ B) (hlo : lo ≤ base) (hS : w'.ownsRow lo 23 1 vS n (vs.set K x)) (hn : vs.length = n) (hx : Sl lo w'.heap.size f8 w' x X) (hn2 : n ≤ 140737488355328) (hr : ∀ r ∈ rows, r.length ≤ 140737488355328) :
    Rws lo w'.heap.size w' vS (rows.set K X) := by
  subst hn
  have h' := h.below hb hB
  refine ⟨vs.set K x, by simp [h.len], Sl.owns (f := fv) (by rw [map_fv, List.length_set]; exact hS) (by rw [List.length_set]; exact hn2), fun r h1 h2 => ?_⟩
  rw [List.getElem_set, List.getElem_set]
  by_cases e : K = r
  · subst e
    simp only [if_true]
    exact hx
  · rw [if_neg e, if_neg e]
    have h1' : r < rows.length := by simpa using h1
    have h2' : r < vs.length := by simpa using h2
    exact (Sl.owns (h'.each r _ _ (List.getElem?_eq_getElem h2') (List.getElem?_eq_getElem h1')) (hr _ (List.getElem_mem h1'))).mono hlo (Nat.le_refl _)

theorem walk (a0 : Int) (v1 : Value) (l1 : List UInt8) (a2 : Int) (a3 : Int) (a4 : Int) (w : World) (w0 : (Lit.int .u32 a0).wf = true) (w1 : Sl 0 w.heap.size f8 w v1 l1) (w2 : (Lit.int .u8 a2).wf = true) (w3 : (Lit.int .i64 a3).wf = true) (w4 : (Lit.int .u32 a4).wf = true) :
    Calls Try.prog 10 #[.int .u32 a0, v1, .int .u8 a2, .int .i64 a3, .int .u32 a4] w fun e w' => e = .returned (.bool true) ∧ Below w.heap.size w w' := by
  obtain ⟨seg, rfl⟩ := of_wf32 w0
  obtain ⟨c, rfl⟩ := of_wf32 w4
  obtain ⟨A, rfl, hA⟩ : ∃ A : Nat, a2 = (A : Int) ∧ A < 256 := by
    have := w2; simp [Lit.wf, IntKind.min, IntKind.max, IntKind.signed, IntKind.bits] at this; exact ⟨a2.toNat, by omega, by omega⟩
  have hr3 : -9223372036854775808 ≤ a3 ∧ a3 ≤ 9223372036854775807 := by
    have := w3; simp [Lit.wf, IntKind.min, IntKind.max, IntKind.signed, IntKind.bits] at this; omega
  obtain ⟨ao, cap, rfl, hv⟩ := w1
  have HV := Lib.hid (show Sl 0 w.heap.size f8 w (.slice ao l1.length cap) l1 from ⟨_, _, rfl, hv⟩)
  clear w0 w2 w3 w4 hv
  by_cases hlen : 7680 < l1.length
  · have i1 : (7680 : Int) < (l1.length : Int) := by omega
    go_enter Try.func10, Try.ntmps10
    go_wp2_with (go_at_call 23; refine (frKnown_any _).mono ?_; rintro e w1 ⟨rfl, hb1⟩)
    go_ret
    exact ⟨rfl, hb1⟩
  have i1 : ¬ (7680 : Int) < (l1.length : Int) := by omega
  have hsp : Fr.splitW seg 0 l1 = (Fr.splitL seg 0 l1, 0) := Fr.splitW_ok (j := 0) (by omega) (by have := Fr.cnt_le (r := l1) (by omega); omega)
  obtain ⟨n, hn⟩ : ∃ n, n = Fr.cnt l1 := ⟨_, rfl⟩
  have hn32 : n ≤ 32 := by rw [hn]; exact Fr.cnt_le (by omega)
  have hn1 : 1 ≤ n := by rw [hn]; exact Fr.cnt_pos _
  have hrows : (Fr.splitL seg 0 l1).length = n := by rw [Fr.splitL_len, hn]
  have hrl : ∀ r ∈ Fr.splitL seg 0 l1, r.length ≤ 140737488355328 := fun r hr => by
    rw [Fr.splitL, List.mem_map] at hr
    obtain ⟨i, _, rfl⟩ := hr
    rw [Fr.one_len]; decide
  obtain ⟨K, hK, hKn⟩ : ∃ K, K = A % n ∧ K < n := ⟨_, rfl, Nat.mod_lt _ (by omega)⟩
  have hX := Fr.splitL_get (seg := seg) (j := 0) (r := l1) (i := K) (by omega)
  obtain ⟨X, hXe⟩ : ∃ X, X = Fr.one seg 0 l1 (Fr.cnt l1) K := ⟨_, rfl⟩
  have hXl : X.length = 256 := by rw [hXe, Fr.one_len]
  have hm1 : (A : Int) % (n : Int) = (K : Int) := by rw [hK]; rfl
  have hm2 : (A : Int).tmod (n : Int) = (K : Int) := by rw [Int.tmod_eq_emod_of_nonneg (by omega)]; exact hm1
  rw [← hXe] at hX
  obtain ⟨F, hF, hF2⟩ : ∃ F : Nat, F < 2048 ∧ ((a3.tmod 2048 < 0 ∧ a3.tmod 2048 = (F : Int) - 2048) ∨ (0 ≤ a3.tmod 2048 ∧ a3.tmod 2048 = F)) := by
    have h1 := Int.tmod_lt_of_pos a3 (show (0 : Int) < 2048 by omega)
    have h2 := Int.lt_tmod_of_pos a3 (show (0 : Int) < 2048 by omega)
    by_cases hn : a3.tmod 2048 < 0
    · exact ⟨(a3.tmod 2048 + 2048).toNat, by omega, .inl ⟨hn, by omega⟩⟩
    · exact ⟨(a3.tmod 2048).toNat, by omega, .inr ⟨by omega, by omega⟩⟩
  have hscan := Fr.scan_turned seg l1 (by omega) K F c (by omega)
  rw [← hXe, ← hn] at hscan
  have HSP := Lib.hid hsp
  have HRL := Lib.hid hrl
  have HRW := Lib.hid hrows
  have HX := Lib.hid hX
  have HXL := Lib.hid hXl
  have HSC := Lib.hid hscan
  have hn0 : ((n : Int) == 0) = false := by simp; omega
  obtain ⟨i0, hi0, hz0, hz1, hz2⟩ := info_parts info5
  obtain ⟨i2, hi2, hy1, hy2, hy3⟩ := info_parts info23
  clear hsp hrl hrows hX hXl hscan hn hK hXe
  rcases hF2 with ⟨hq0, hq⟩ | ⟨hq0, hq⟩
  all_goals
    go_enter Try.func10, Try.ntmps10
    go_wp2_with fail
    refine (frKnown_any _).mono ?_
    rintro e w1 ⟨rfl, hb1⟩
    have HB1 := Lib.hid hb1
    clear hb1
    go_wp2_with fail
    refine Calls.mono (split_at 0 w.heap.size w1 _ seg (by rfl) _ (by omega) _ l1 (by exact HV.out.below HB1.out (Nat.le_refl _)) HB1.out.size _ _ HSP.out) ?_
    rintro e w2 ⟨u2, vs2, rfl, hr2, hb2⟩
    have hl2 : vs2.length = n := by rw [hr2.len]; exact HRW.out
    obtain ⟨g2, c2, hu2, _, _⟩ := own_shape hr2.row (by omega)
    rw [hl2] at hu2
    obtain ⟨xk, hxk⟩ : ∃ xk, vs2[K]? = some xk := ⟨_, List.getElem?_eq_getElem (by omega)⟩
    have hxo := hr2.each K xk X hxk HX.out
    rw [HXL.out] at hxo
    obtain ⟨gk, ck, hxe, _, _⟩ := own_shape hxo (by omega)
    have hc2 : w2.cell? ⟨g2, K, none⟩ = some (.slice (some ⟨gk, 0, none⟩) 256 ck) := by
      have h3 := hr2.row
      rw [hu2, hl2] at h3
      rw [← hxe]
      exact (h3.cellAt K (by omega)).trans hxk
    have hxs : Sl w1.heap.size w2.heap.size f8 w2 (.slice (some ⟨gk, 0, none⟩) 256 ck) X := by rw [← hxe]; exact sl_own hxo HXL.out (by decide)
    obtain ⟨ak', ck', hke, hxc⟩ := hxs
    rw [HXL.out] at hke
    injection hke with hk1 _ hk2
    subst hk1 hk2
    have HXC := Lib.hid hxc
    have HR2 := Lib.hid hr2
    have HL2 := Lib.hid hl2
    have HS2 := Lib.hid (HB1.out.trans (hb2.mono HB1.out.size))
    subst hu2
    have j1 : (0 : Int) ≤ (K : Int) ∧ (K : Int) < (n : Int) := by omega
    clear hr2 hb2 hl2 hxk hxo hxe hxc
    go_wp2_with (at_builtin; refine wpList_append_sl rfl (.tmp 54) (.tmp 58) 23 rfl w2.heap.size 5 i0 (.int .u8 0) 1 Try.underlying23 hi0 hz0 hz1 hz2 rfl _ 0 [] rfl (World.ownsRow_nil _ _ _ _) (some ⟨gk, 0, none⟩) ck X (by rw [HXL.out]; rfl) HXC.out (f8_one _) (by rw [HXL.out]; decide) (by rw [HXL.out]; decide) (Nat.le_refl _) ?_; intro v3 w3 hown3 hgr3)
    clear hq hq0 hm1 hm2
    rw [Nat.zero_add, List.nil_append, HXL.out] at hown3
    obtain ⟨g, cap', rfl, hg, hgw⟩ := own_shape hown3 (by omega)
    have hb3 : Below w2.heap.size w2 w3 := (Below.refl _ _).grown hgr3 (Nat.le_refl _) (fun k h => by cases h)
    have H3 := Lib.hid hown3
    have HB3 := Lib.hid hb3
    clear hgr3 hown3 hb3 hc2
    go_loopw [16, 17, 18] (fun t i _ wr => ∃ k : Nat, k ≤ 32 ∧ i = .int .i64 k ∧ t = .bool (Crc.turned X F c k) ∧ wr.ownsRow w2.heap.size 5 1 (.slice (some ⟨g, 0, none⟩) 256 cap') 256 ((Crc.flips X F c k).map f8) ∧ Below w2.heap.size w2 wr) (fun _ i _ _ => 32 - (intOf i).toNat)
    case atStart => exact ⟨0, by omega, rfl, rfl, H3.out, HB3.out⟩
    case round =>
      obtain ⟨k, hk, rfl, rfl, hown, hbr⟩ := hrel
      by_cases hlt : k < 32
      · have hck := bit_test c k
        by_cases hc1 : c.getLsbD k = true
        · rw [if_pos hc1] at hck
          by_cases hF3 : F + k < 2048
          · have hcell : wr.cell? ⟨g, (F + k) / 8, none⟩ = some (.int .u8 (W8 ((Crc.flips X F c k).getD ((F + k) / 8) 0))) := by
              rw [hown.cellAt _ (by omega)]
              have hfl := Crc.flips_len X F c k
              rw [HXL.out] at hfl
              simp [List.getD, hfl, show (F + k) / 8 < 256 by omega]
              rfl
            have hfz := hown.frozenAt ((F + k) / 8)
            have h8 := W8_lt ((Crc.flips X F c k).getD ((F + k) / 8) 0)
            have HO := Lib.hid hown
            clear hown
            generalize hy : (Crc.flips X F c k).getD ((F + k) / 8) 0 = y at *
            have HY := Lib.hid hy
            clear hy
            go_wp2
            go_roundw
            case rel =>
              have hs := HO.out.stored ((F + k) / 8) (.int .u8 (W8 (y ^^^ Crc.bit8 ((F + k) % 8))))
              refine ⟨k + 1, by omega, by go_num, ?_, ?_, hbr.setCell (by exact hg) _⟩
              · rw [Crc.turned, if_pos ⟨hc1, by rw [HXL.out]; omega⟩]
              · rw [xor_bit8 _ _ (Nat.mod_lt _ (by omega)), Crc.flips, if_pos ⟨hc1, by rw [HXL.out]; omega⟩, HY.out, List.map_set]
                exact hs.1
            case measure => simp [intOf]; omega
          · have HO := Lib.hid hown
            clear hown
            go_wp2
            go_roundw
            case rel =>
              have hn : ¬ (c.getLsbD k = true ∧ F + k < 8 * X.length) := fun h => hF3 (by have := h.2; rw [HXL.out] at this; omega)
              refine ⟨k + 1, by omega, by go_num, ?_, ?_, hbr⟩
              · rw [Crc.turned, if_neg hn]
              · rw [Crc.flips, if_neg hn]; exact HO.out
            case measure => simp [intOf]; omega
        · rw [if_neg hc1] at hck
          have HO := Lib.hid hown
          clear hown
          go_wp2
          go_roundw
          case rel =>
            have hn : ¬ (c.getLsbD k = true ∧ F + k < 8 * X.length) := fun h => hc1 h.1
            refine ⟨k + 1, by omega, by go_num, ?_, ?_, hbr⟩
            · rw [Crc.turned, if_neg hn]
            · rw [Crc.flips, if_neg hn]; exact HO.out
          case measure => simp [intOf]; omega
      · have e : k = 32 := by omega
        subst e
        obtain ⟨vl, hvl⟩ : ∃ vl, Hid (vl = vs2) := ⟨_, Lib.hid rfl⟩
        have hrow := HR2.out.below hbr (Nat.le_refl _)
        have hsl : SlC w1.heap.size wr.heap.size fv wr (some ⟨g2, 0, none⟩) c2 vs2 := by
          obtain ⟨a', c', he, hs⟩ := Sl.owns (f := fv) (l := vs2) (by rw [map_fv]; exact hrow.row) (by rw [HL2.out]; omega)
          rw [HL2.out] at he
          injection he with e1 _ e2
          subst e1 e2
          exact hs
        have HSL := Lib.hid hsl
        have HROW := Lib.hid hrow
        have HO := Lib.hid hown
        clear hrow hsl hown H3 HB3 hvl
        have hbs := hbr.size
        go_wp2_with (at_builtin; refine wpList_append_sl rfl (.tmp 94) (.tmp 95) 30 rfl wr.heap.size 23 i2 (.slice none 0 0) 24 Try.underlying30 hi2 hy1 hy2 hy3 rfl _ 0 [] rfl (World.ownsRow_nil _ _ _ _) (some ⟨g2, 0, none⟩) c2 vs2 (by rw [HL2.out]; rfl) HSL.out (ORow.ones HROW.out) (by rw [HL2.out]; unfold maxLen; omega) (by rw [HL2.out]; omega) (Nat.le_refl _) ?_; intro v5 w5 hown5 hgr5; rw [Nat.zero_add, List.nil_append, HL2.out, map_fv] at hown5; obtain ⟨gS, cS, hvS, hgS, _⟩ := own_shape hown5 (by omega); subst hvS; have hb5 : Below wr.heap.size wr w5 := (Below.refl _ _).grown hgr5 (Nat.le_refl _) (fun k h => by cases h); have hcS : w5.cell? ⟨gS, K, none⟩ = some (vs2[K]'(by rw [HL2.out]; omega)) := (by rw [hown5.cellAt K (by omega)]; simp [HL2.out, hKn]); have hfS := hown5.frozenAt K; have HO5 := Lib.hid hown5; have HB5 := Lib.hid hb5; clear hown5 hgr5 hb5)
        have hst := HO5.out.stored K (.slice (some ⟨g, 0, none⟩) 256 cap')
        have hb6 : Below wr.heap.size wr (w5.setCell ⟨gS, K, none⟩ (.slice (some ⟨g, 0, none⟩) 256 cap')) := HB5.out.setCell (by exact hgS) _
        have hxo : (w5.setCell ⟨gS, K, none⟩ (.slice (some ⟨g, 0, none⟩) 256 cap')).ownsRow w2.heap.size 5 1 (.slice (some ⟨g, 0, none⟩) 256 cap') 256 ((Crc.flips X F c 32).map f8) := own_below HO.out hb6 (Nat.le_refl _)
        have hlo : w1.heap.size ≤ w2.heap.size := by omega
        have hrws := rws_set (lo := w1.heap.size) (X := Crc.flips X F c 32) HROW.out hb6 (Nat.le_refl _) (Nat.le_refl _) (own_mono hst.1 (by omega)) HL2.out ((sl_own hxo (by rw [Crc.flips_len, HXL.out]) (by decide)).mono hlo (Nat.le_refl _)) (by omega) HRL.out
        have HRS := Lib.hid hrws
        have HB6 := Lib.hid (HS2.out.trans ((hbr.trans (hb6.mono hbs)).mono HS2.out.size))
        have HSC' := HSC.out
        obtain ⟨tn, htn⟩ : ∃ tn, tn = Crc.turned X F c 32 := ⟨_, rfl⟩
        rw [← htn] at HSC' ⊢
        clear hst hb6 hxo hrws hcS hfS htn
        cases tn with
        | true =>
          rw [if_pos rfl] at HSC'
          refine Calls.mono (scan_at w1.heap.size _ _ _ seg (by rfl) _ _ HRS.out (by rw [List.length_set, HRW.out]; omega) (Nat.le_refl _) _ _ HSC') ?_
          rintro e w7 ⟨u7, vs7, rfl, hr7, hb7⟩
          obtain ⟨a7, c7, hu7⟩ := own_slice hr7.row
          have hl7 : vs7.length = 0 := hr7.len
          rw [hl7] at hu7
          subst hu7
          have HB7 := Lib.hid (HB6.out.trans (hb7.mono HB6.out.size))
          clear hr7 hb7 hl7
          go_wp2_with fail
          go_ret
          exact ⟨rfl, HB7.out⟩
        | false =>
          rw [if_neg (by decide)] at HSC'
          refine Calls.mono (scan_at w1.heap.size _ _ _ seg (by rfl) _ _ HRS.out (by rw [List.length_set, HRW.out]; omega) (Nat.le_refl _) _ _ HSC') ?_
          rintro e w7 ⟨u7, vs7, rfl, hr7, hb7⟩
          obtain ⟨a7, c7, hu7⟩ := own_slice hr7.row
          have hl7 : vs7.length = 1 := hr7.len
          rw [hl7] at hu7
          subst hu7
          have HB7 := Lib.hid (HB6.out.trans (hb7.mono HB6.out.size))
          clear hr7 hb7 hl7
          go_wp2_with fail
          go_ret
          exact ⟨rfl, HB7.out⟩
end Go.Proofs.Ytckmeomhcikmoaa.frameTurned
