import Derived.Test.YtepjpdhmjchakaaGreatDoorQ15
import Derived.Test.YtepjpdhmjchakaaGreatDoorQ14
import Derived.Test.YtepjpdhmjchakaaGreatDoorQ23
/- The document's Decode. Condition: the document's list of buckets (BkAt). Printed by genxdec.py out of XDec.src. -/
namespace Go.Proofs.YtepjpdhmjchakaaGreatDoor
open Go.RowKit
set_option linter.unusedVariables false

/-- What both decoders say of chunks. -/
def DecPost (w : World) (l : List Cki) (e : Ending) (w' : World) : Prop :=
  ∃ v, e = .returned (.tuple #[v, .int .u16 (dcd l).2]) ∧ w'.ownsRow w.heap.size 79 2 v (dcd l).1.length (smCs (dcd l).1) ∧ Below w.heap.size w w'
theorem dcd_none {l : List Cki} {c : Cki} (hc : c ∈ l) (h : rdo c = none) : dcd l = ([], 101) := by
  unfold dcd
  rw [if_pos ⟨c, hc, h⟩]

set_option maxHeartbeats 4000000 in
set_option maxRecDepth 100000 in
theorem xdecode_any (w : World) (ao : Option Addr) (cap : Nat) (l : List Cki) (h : Chs w.heap.size w ao cap l) (hl : l.length ≤ 1000000) (hr : ∀ c ∈ l, c.d.length ≤ 1000000) {b o c' b0 o0 c0 b1 o1 c1 b2 o2 c2 : Nat} (hk : BkAt w.heap.size w b o c' b0 o0 c0 b1 o1 c1 b2 o2 c2) :
    Calls Tryz.prog 13 #[.slice ao l.length cap] w fun e w' => DecPost w l e w' := by
  obtain ⟨i0, hi0, hz0, hz1, hz2⟩ := info_parts infoSm4
  have H := Lib.hid h
  have HK := Lib.hid hk
  have HRR := Lib.hid hr
  clear h hk hr
  go_enter Tryz.func13, Tryz.ntmps13
  go_wp2_with fail
  go_loopw [4, 5, 6] (fun out ord i wr => ∃ (k : Nat) (O : Int), k ≤ l.length ∧ i = .int .i64 k ∧ ord = .int .u16 O ∧ (∀ c ∈ l.take k, ∃ ls, rdo c = some ls) ∧ ((O = 0 ∧ ¬ Ob l k) ∨ (O = 100 ∧ Ob l k)) ∧ (outs l k).length ≤ 120 * k ∧ wr.ownsRow w.heap.size 79 2 out (outs l k).length (smCs (outs l k)) ∧ Below w.heap.size w wr) (fun _ _ i _ => l.length - (intOf i).toNat)
  case atStart => exact ⟨0, 0, Nat.zero_le _, rfl, rfl, by simp, .inl ⟨rfl, fun ⟨i, a, b, h, _⟩ => by omega⟩, Nat.zero_le _, World.ownsRow_nil _ _ _ _, Below.refl _ _⟩
  case round =>
    obtain ⟨k, O, hk, rfl, rfl, hok, hO, hol, hown, hbel⟩ := hrel
    have HOK := Lib.hid hok
    have HORD := Lib.hid hO
    have HOL := Lib.hid hol
    have HOW := Lib.hid hown
    have HB := Lib.hid hbel
    have hs := hbel.size
    obtain ⟨ab, cb, rfl⟩ := own_slice hown
    clear hok hO hol hown hbel
    by_cases hlt : k < l.length
    · obtain ⟨bb, off, hao, hbb, hcell⟩ := (H.out.below HB.out (Nat.le_refl _)).cells (by intro e; subst e; simp at hlt)
      subst hao
      obtain ⟨x, hx⟩ : ∃ x, l[k] = x := ⟨_, rfl⟩
      obtain ⟨d0, d1, d2, u, d3, hsl⟩ := hcell k hlt
      rw [hx] at d0 d1 d2 hsl
      have HSL := Lib.hid hsl
      have HCELL := Lib.hid hcell
      have HX := Lib.hid (show l[k]? = some x by rw [List.getElem?_eq_getElem hlt, hx])
      have hxm : x ∈ l := by rw [← hx]; exact List.getElem_mem hlt
      have hxd := HRR.out x hxm
      have HXM := Lib.hid hxm
      have HTK := Lib.hid (show l.take (k + 1) = l.take k ++ [x] by rw [List.take_succ_eq_append_getElem hlt, hx])
      have HOS := Lib.hid (show outs l (k + 1) = outs l k ++ (rdo x).getD [] by rw [outs_succ hlt, hx])
      obtain ⟨au, cu, rfl, _⟩ := hsl
      have i1 : (0 : Int) ≤ (k : Int) ∧ (k : Int) < (l.length : Int) := by omega
      clear hcell hx hxm
      go_wp2_with fail
      refine Calls.mono (by exact xall_any wr x _ 0 w.heap.size HSL.out hs hxd ((HK.out.below HB.out).mono hs)) ?_
      rintro e w1 ⟨⟨bo, ls, v1, rfl, ho1, hf1, hl1, hcase⟩, hb1⟩
      have hs1 := hb1.size
      have HB1 := Lib.hid (HB.out.trans (hb1.mono hs))
      have q0 := (hb1.cell (p := ⟨bb, off + k * 4, none⟩) (show bb < wr.heap.size by omega)).trans d0
      have HCELL1 := Lib.hid (fun (j : Nat) (hj : j < l.length) => (hb1.cell (p := ⟨bb, off + j * 4 + 1, none⟩) (show bb < wr.heap.size by omega)).trans (HCELL.out j hj).c1)
      have HOW1 := Lib.hid (own_of_same HOW.out (fun q hq => hb1.block q (HOW.out.lt q hq).2))
      have HOF := Lib.hid (fun (q : Nat) (hq : (Value.slice ab (outs l k).length cb).ownBlock = some q) => (HOW.out.lt q hq).2)
      clear hb1 d0 d1 d2 d3 HCELL
      rcases hcase with ⟨rfl, hrd⟩ | ⟨rfl, hrd⟩
      · have hne : 0 < ls.length := by have := (rdo_some.1 hrd).len; have := (rdo_some.1 hrd).1; omega
        obtain ⟨g1, c1', rfl, _, _⟩ := own_shape ho1 hne
        have HO1 := Lib.hid ho1
        have HRD := Lib.hid hrd
        have HNX := Lib.hid (show outs l (k + 1) = outs l k ++ ls by rw [HOS.out, hrd]; rfl)
        have HOKN := Lib.hid (show ∀ c ∈ l.take (k + 1), ∃ ls, rdo c = some ls from fun c hc => by
          rw [HTK.out, List.mem_append] at hc
          rcases hc with hc | hc
          · exact HOK.out c hc
          · simp at hc; subst hc; exact ⟨_, hrd⟩)
        have hol := HOL.out
        clear ho1 hrd hf1
        by_cases h0 : k = 0
        · subst h0
          have HON := Lib.hid (show (O = 0 ∧ ¬ Ob l (0 + 1)) ∨ (O = 100 ∧ Ob l (0 + 1)) from by
            rcases HORD.out with ⟨h1, _⟩ | ⟨_, ⟨i, a, b, h1, _⟩⟩
            · exact .inl ⟨h1, ob_zero l⟩
            · omega)
          rw [Nat.zero_mul, Nat.add_zero] at q0
          go_wp2_with fail
          go_quiet (fail)
          go_wp2_with (at_builtin; go_loud (refine wpList_append_own _ rfl (.tmp 41) (.tmp 42) 22 rfl w.heap.size 79 i0 (.agg #[.int .i64 0, .int .u64 0]) 2 16 Tryz.underlying22 hi0 hz0 hz1 hz2 rfl (by decide) _ _ _ rfl (own_of_same HOW1.out (fun q _ => rfl)) ⟨g1, 0, none⟩ ls.length c1' (smCs ls) rfl (smCs_len ls) ((own_of_same (w' := w1) HO1.out (fun q _ => rfl)).cells (g := g1) rfl) (smCs_one' ls) (by unfold maxLen; omega) (by omega) (by show w.heap.size ≤ w1.heap.size; omega) ?_); intro v9 w9 hown9 hgrow9 _; have HO9 := Lib.hid hown9; have HG9 := Lib.hid hgrow9; clear hown9 hgrow9)
          go_roundw
          case rel =>
            have hol2 := HOL.out
            refine ⟨0 + 1, O, by omega, by push_cast; rfl, rfl, HOKN.out, HON.out, by rw [HNX.out, List.length_append]; omega, by rw [HNX.out, smCs_app', List.length_append]; exact HO9.out, ?_⟩
            exact (HB1.out.trans ((drewN_b w1 _).mono (by omega))).grown HG9.out (by show w.heap.size ≤ w1.heap.size; omega) (fun q hq => (HOW.out.lt q hq).1)
          case measure => simp [intOf]; omega
        · obtain ⟨j, rfl⟩ : ∃ j, k = j + 1 := ⟨k - 1, by omega⟩
          obtain ⟨y, hy⟩ : ∃ y, l[j]'(by omega) = y := ⟨_, rfl⟩
          have q1 := HCELL1.out j (by omega)
          rw [hy] at q1
          have HY := Lib.hid (show l[j]? = some y by rw [List.getElem?_eq_getElem (by omega), hy])
          have gp : decide (0 < ((j + 1 : Nat) : Int)) = true := decide_eq_true (by omega)
          have gp2 : decide (0 < ((j : Int) + 1)) = true := decide_eq_true (by omega)
          have e2 : IntKind.i64.wrap (j : Int) = (j : Int) := by rw [IntKind.wrap_i64]; omega
          have i2 : (0 : Int) ≤ (j : Int) ∧ (j : Int) < (l.length : Int) := by omega
          clear hy
          by_cases hle : x.f ≤ y.t
          · have gxy : decide (x.f ≤ y.t) = true := decide_eq_true hle
            have HON := Lib.hid (ob_yes HX.out HY.out hle)
            clear hle
            go_wp2_with fail
            go_quiet (fail)
            go_wp2_with (at_builtin; go_loud (refine wpList_append_own _ rfl (.tmp 41) (.tmp 42) 22 rfl w.heap.size 79 i0 (.agg #[.int .i64 0, .int .u64 0]) 2 16 Tryz.underlying22 hi0 hz0 hz1 hz2 rfl (by decide) _ _ _ rfl (own_of_same HOW1.out (fun q _ => rfl)) ⟨g1, 0, none⟩ ls.length c1' (smCs ls) rfl (smCs_len ls) ((own_of_same (w' := w1) HO1.out (fun q _ => rfl)).cells (g := g1) rfl) (smCs_one' ls) (by unfold maxLen; omega) (by omega) (by show w.heap.size ≤ w1.heap.size; omega) ?_); intro v9 w9 hown9 hgrow9 _; have HO9 := Lib.hid hown9; have HG9 := Lib.hid hgrow9; clear hown9 hgrow9)
            go_roundw
            case rel =>
              have hol2 := HOL.out
              refine ⟨j + 1 + 1, 100, by omega, by push_cast; rfl, rfl, HOKN.out, (.inr ⟨rfl, HON.out⟩), by rw [HNX.out, List.length_append]; omega, by rw [HNX.out, smCs_app', List.length_append]; exact HO9.out, ?_⟩
              exact (HB1.out.trans ((drewN_b w1 _).mono (by omega))).grown HG9.out (by show w.heap.size ≤ w1.heap.size; omega) (fun q hq => (HOW.out.lt q hq).1)
            case measure => simp [intOf]; omega
          · have gxy : decide (x.f ≤ y.t) = false := decide_eq_false hle
            have HON := Lib.hid (show (O = 0 ∧ ¬ Ob l (j + 1 + 1)) ∨ (O = 100 ∧ Ob l (j + 1 + 1)) from by rw [ob_no HX.out HY.out hle]; exact HORD.out)
            clear hle
            go_wp2_with fail
            go_quiet (fail)
            go_wp2_with (at_builtin; go_loud (refine wpList_append_own _ rfl (.tmp 41) (.tmp 42) 22 rfl w.heap.size 79 i0 (.agg #[.int .i64 0, .int .u64 0]) 2 16 Tryz.underlying22 hi0 hz0 hz1 hz2 rfl (by decide) _ _ _ rfl (own_of_same HOW1.out (fun q _ => rfl)) ⟨g1, 0, none⟩ ls.length c1' (smCs ls) rfl (smCs_len ls) ((own_of_same (w' := w1) HO1.out (fun q _ => rfl)).cells (g := g1) rfl) (smCs_one' ls) (by unfold maxLen; omega) (by omega) (by show w.heap.size ≤ w1.heap.size; omega) ?_); intro v9 w9 hown9 hgrow9 _; have HO9 := Lib.hid hown9; have HG9 := Lib.hid hgrow9; clear hown9 hgrow9)
            go_roundw
            case rel =>
              have hol2 := HOL.out
              refine ⟨j + 1 + 1, O, by omega, by push_cast; rfl, rfl, HOKN.out, HON.out, by rw [HNX.out, List.length_append]; omega, by rw [HNX.out, smCs_app', List.length_append]; exact HO9.out, ?_⟩
              exact (HB1.out.trans ((drewN_b w1 _).mono (by omega))).grown HG9.out (by show w.heap.size ≤ w1.heap.size; omega) (fun q hq => (HOW.out.lt q hq).1)
            case measure => simp [intOf]; omega
      · have HD := Lib.hid (dcd_none HXM.out hrd)
        clear hrd
        go_wp2_with fail
        go_ret2
        exact ⟨.slice none 0 0, by rw [HD.out]; rfl, by rw [HD.out]; exact World.ownsRow_nil _ _ _ _, HB1.out⟩
    · obtain rfl : k = l.length := by omega
      have hokl : ∀ c ∈ l, ∃ ls, rdo c = some ls := by have := HOK.out; rwa [List.take_length] at this
      have HL2 := Lib.hid hokl
      clear hokl
      rcases HORD.out with ⟨rfl, hnb⟩ | ⟨rfl, hb⟩
      · have HD := Lib.hid (dcd_good HL2.out hnb)
        clear hnb
        go_wp2_with fail
        go_ret2
        exact ⟨_, by rw [HD.out]; rfl, by rw [HD.out]; exact HOW.out, HB.out⟩
      · have HD := Lib.hid (dcd_bad HL2.out hb)
        clear hb
        go_wp2_with fail
        go_ret2
        exact ⟨.slice none 0 0, by rw [HD.out]; rfl, by rw [HD.out]; exact World.ownsRow_nil _ _ _ _, HB.out⟩
end Go.Proofs.YtepjpdhmjchakaaGreatDoor
