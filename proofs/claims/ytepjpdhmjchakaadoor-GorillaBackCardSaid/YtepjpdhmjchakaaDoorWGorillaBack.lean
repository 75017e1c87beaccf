/- The walk of GorillaBack. Condition: the library's table of trailing noughts (TabW). -/
import Derived.Test.YtepjpdhmjchakaaDoorWGorillaOne
import Derived.Test.YtepjpdhmjchakaaDoorRr8
import Derived.Deep.RegionHeld3
namespace Go.Proofs.YtepjpdhmjchakaaDoor.gorillaBack
open Go.RowKit Go.Proofs.YtepjpdhmjchakaaDoor
set_option linter.unusedVariables false

theorem smCs_app (a b : List Gz.Smp) : smCs (a ++ b) = smCs a ++ smCs b := by simp [smCs]
theorem smCs_one (l : List Gz.Smp) : ∀ u ∈ smCs l, u.oneCell' = true := by
  intro u hu
  unfold smCs at hu
  rw [List.mem_flatten] at hu
  obtain ⟨x, hx, hu⟩ := hu
  obtain ⟨s, _, rfl⟩ := List.mem_map.1 hx
  simp at hu
  rcases hu with rfl | rfl <;> rfl
/-- What is known of a chunk that is one. -/
theorem rdo_facts {c : Cki} {p : List Gz.Smp} (h : rdo c = some p) : ∃ m s z, p.length = m + 1 ∧ p[0]? = some s ∧ p[m]? = some z ∧ c.n = ((m + 1 : Nat) : Int) ∧ c.f = s.t ∧ c.t = z.t ∧ m < 120 := by
  have hr := rdo_some.1 h
  have hl := hr.len
  have hf := hr.fine
  obtain ⟨h1, h2, d, h3, _, h4, h5, _⟩ := hr
  have hp : 0 < p.length := by omega
  obtain ⟨s, r, rfl⟩ := List.exists_cons_of_ne_nil (List.length_pos_iff.1 hp)
  have hz : (s :: r).getLast? = some ((s :: r)[r.length]'(by simp)) := by rw [List.getLast?_eq_getElem?, List.getElem?_eq_getElem (by simp)]; rfl
  refine ⟨r.length, s, (s :: r)[r.length]'(by simp), rfl, rfl, List.getElem?_eq_getElem (by simp), ?_, ?_, ?_, ?_⟩
  · simp at hl ⊢; omega
  · rw [← h4, Gz.all_first]
  · rw [← h5, Gz.all_last hf hz]
  · simp at hl; omega
theorem dcd_ok {l : List Cki} {R : List Gz.Smp} (h : dcd l = (R, 0)) : (∀ c ∈ l, ∃ ls, rdo c = some ls) ∧ outs l l.length = R := by
  have hok : ∀ c ∈ l, ∃ ls, rdo c = some ls := by
    intro c hc
    cases hr : rdo c with
    | some ls => exact ⟨ls, rfl⟩
    | none =>
      unfold dcd at h
      rw [if_pos ⟨c, hc, hr⟩] at h
      injection h with _ h
      exact absurd h (by decide)
  refine ⟨hok, ?_⟩
  by_cases hb : Ob l l.length
  · rw [dcd_bad hok hb] at h
    injection h with _ h
    exact absurd h (by decide)
  · rw [dcd_good hok hb] at h
    injection h

set_option maxHeartbeats 4000000 in
set_option maxRecDepth 100000 in
theorem walk (ao : Option Addr) (cap : Nat) (l : List Gz.Smp) (W : World) (h0 : Sms W.heap.size W ao cap l) (hT : TabW W) :
    Calls Tryd.prog 6 #[.slice ao l.length cap] W fun e W' => e = .returned (.bool true) ∧ Below W.heap.size W W' := by
  obtain ⟨i0, hi0, hz0, hz1, hz2⟩ := info_parts infoSm4
  have hlb : 1 < W.heap.size := block_lt_of_cell (hT 0 (by omega))
  obtain ⟨gl, nl⟩ := Gz.rise_good (l := l) (fun s hs => (h0.fits s hs).2)
  have H0 := Lib.hid h0
  have HT := Lib.hid hT
  have HGL := Lib.hid gl
  obtain ⟨P, hPl, hP, hcut, hPn⟩ := Gz.cut_pieces' gl
  have HLEN := Lib.hid (show ((Gz.cut (Gz.rise l)).map Ck.i).length = ((Gz.rise l).length + 119) / 120 by rw [List.length_map, hcut, List.length_map, hPn])
  have HDC := Lib.hid (dcd_cut gl)
  have HOK := Lib.hid (dcd_ok (dcd_cut gl))
  clear h0 hT gl hPl hP hcut hPn
  go_enter Tryd.func6, Tryd.ntmps6
  go_wp2_with fail
  refine Calls.mono (by exact gorillaOne.rising_sl W ao cap l H0.out) ?_
  rintro e w1 ⟨a1, c1, rfl, hs1, hb1⟩
  generalize Gz.rise l = R at *
  have HS1 := Lib.hid hs1
  have HB1 := Lib.hid hb1
  clear hs1 hb1
  go_wp2_with fail
  refine Calls.mono (by exact gorillaOne.encode_sl w1 a1 c1 R HS1.out HGL.out nl (HT.out.below HB1.out hlb)) ?_
  rintro e w2 ⟨a2, c2, rfl, hs2, hb2⟩
  generalize (Gz.cut R).map Ck.i = X at *
  have HS1' := Lib.hid (HS1.out.below hb2 (Nat.le_refl _))
  have HC2 := Lib.hid hs2
  have HB2 := Lib.hid (HB1.out.trans (hb2.mono HB1.out.size))
  have hz2' := hb2.size
  clear hs2 hb2 HS1
  have hXl : X.length ≤ 20 := by have := HLEN.out; omega
  go_wp2_with fail
  refine Calls.mono (by exact decode_any w2 a2 c2 X HC2.out (by omega) (HT.out.below HB2.out hlb)) ?_
  rintro e w3 ⟨v3, rfl, ho3, hb3⟩
  rw [HDC.out] at ho3 ⊢
  obtain ⟨a3, c3, hv3, hs3⟩ := Sms.owns ho3 (by show R.length ≤ _; unfold maxLen; omega) (fun s hs => by have := HGL.out.far s hs; unfold Gz.far at this; omega)
  subst hv3
  have HS3 := Lib.hid hs3
  have HS1 := Lib.hid (HS1'.out.below hb3 hz2')
  have HC3 := Lib.hid (HC2.out.below hb3 (Nat.le_refl _))
  have HB3 := Lib.hid (HB2.out.trans (hb3.mono HB2.out.size))
  have hz3 := hb3.size
  clear hs3 hb3 ho3 HS1' HC2
  have gl1 : ((X.length : Int) != (((R.length : Int) + 119) / 120)) = false := by have := HLEN.out; simp; omega
  go_wp2_with fail
  refine Calls.mono (by exact gzKnown_any w3 (HT.out.below HB3.out hlb)) ?_
  rintro e w4 ⟨rfl, hb4⟩
  have HS1' := Lib.hid (HS1.out.below hb4 (by omega))
  have HS3' := Lib.hid (HS3.out.below hb4 (Nat.le_refl _))
  have HC4 := Lib.hid (HC3.out.below hb4 hz3)
  have HB4 := Lib.hid (HB3.out.trans (hb4.mono HB3.out.size))
  have hz4 := hb4.size
  have hzW := HB4.out.size
  clear hb4 HS1 HS3 HC3 gl1
  go_wp2_with fail
  go_loopw [8, 9] (fun y i wr => ∃ k : Nat, k ≤ X.length ∧ i = .int .i64 k ∧ wr.ownsRow w4.heap.size 70 2 y (outs X k).length (smCs (outs X k)) ∧ (outs X k).length ≤ 120 * k ∧ Below w4.heap.size w4 wr) (fun _ i _ => X.length - (intOf i).toNat)
  case atStart => exact ⟨0, Nat.zero_le _, rfl, by simpa [outs, smCs] using World.ownsRow_nil w4 w4.heap.size 70 2, by simp [outs], Below.refl _ _⟩
  case round =>
    obtain ⟨k, hk, rfl, hrow, hol, hbel⟩ := hrel
    have HROW := Lib.hid hrow
    have HOL := Lib.hid hol
    have HBE := Lib.hid hbel
    have hsz := hbel.size
    clear hrow hol hbel
    by_cases hlt : k < X.length
    · obtain ⟨b, off, hao, hbh, hcs⟩ := (HC4.out.below HBE.out (by omega)).cells (by intro e; subst e; simp at hlt)
      subst hao
      obtain ⟨q0, q1, q2, u, q3, hsl⟩ := hcs k hlt
      have i1 : (0 : Int) ≤ (k : Int) ∧ (k : Int) < (X.length : Int) := by omega
      obtain ⟨p, hp⟩ := HOK.out.1 X[k] (List.getElem_mem hlt)
      have hou : outs X (k + 1) = outs X k ++ p := by rw [outs_succ hlt, hp]; rfl
      have hal : al (-1) X[k] = p := by unfold al; rw [if_pos (by decide), hp]; rfl
      obtain ⟨m, s, z, hpl, hps, hpz, hn, hf, ht, hm⟩ := rdo_facts hp
      obtain ⟨x, hx⟩ : ∃ x, X[k] = x := ⟨_, rfl⟩
      rw [hx] at q0 q1 q2 hp hal hn hf ht hsl
      have HSL := Lib.hid hsl
      obtain ⟨au, cu, hu, _⟩ := hsl
      subst hu
      have HAL := Lib.hid hal
      have HP := Lib.hid hp
      have HPL := Lib.hid hpl
      have HOU := Lib.hid hou
      have HD := Lib.hid (And.intro hf (And.intro ht hn))
      have HPS := Lib.hid hps
      have HPZ := Lib.hid hpz
      clear hcs hx hal hou hp hf ht hn hpl hps hpz
      go_wp2_with fail
      refine Calls.mono (by exact gall_any wr x _ 0 w2.heap.size (-1) HSL.out (by omega) ((HT.out.below HB4.out hlb).below HBE.out (by omega))) ?_
      rintro e w5 ⟨v5, rfl, ho5, hb5⟩
      rw [HAL.out, HPL.out] at ho5
      have hs5 := hb5.size
      obtain ⟨g5, c5, hv5, hg5, hg5l⟩ := own_shape ho5 (by omega)
      subst hv5
      have ha5 : ∀ j u, (smCs p)[j]? = some u → w5.cell? ⟨g5, j, none⟩ = some u := fun j u hj => by
        have := ho5.cells (g := g5) rfl j u hj
        rwa [Addr.add_lit, Nat.zero_add] at this
      obtain ⟨hps1, hps2⟩ := List.getElem?_eq_some_iff.1 HPS.out
      obtain ⟨hpz1, hpz2⟩ := List.getElem?_eq_some_iff.1 HPZ.out
      have n0 := ha5 0 _ (by have := (smCs_get hps1).1; rw [hps2] at this; exact this)
      have n1 := ha5 (m * 2) _ (by have := (smCs_get hpz1).1; rw [hpz2] at this; exact this)
      have hb5b : b < wr.heap.size := by omega
      have d0 := (hb5.cell (p := ⟨b, off + k * 4, none⟩) hb5b).trans q0
      have d1 := (hb5.cell (p := ⟨b, off + k * 4 + 1, none⟩) hb5b).trans q1
      have d2 := (hb5.cell (p := ⟨b, off + k * 4 + 2, none⟩) hb5b).trans q2
      have d3 := (hb5.cell (p := ⟨b, off + k * 4 + 3, none⟩) hb5b).trans q3
      have HO5 := Lib.hid ho5
      have HB5 := Lib.hid hb5
      have e2 : IntKind.i64.wrap (m : Int) = (m : Int) := by rw [IntKind.wrap_i64]; omega
      have i2 : (0 : Int) ≤ (m : Int) ∧ (m : Int) < ((m + 1 : Nat) : Int) := by omega
      have i3 : (0 : Int) ≤ (m : Int) ∧ (m : Int) < (m : Int) + 1 := by omega
      have i4 : (0 : Int) ≤ (m : Int) := by omega
      have i5 : (m : Int) < (m : Int) + 1 := by omega
      clear q0 q1 q2 q3 ho5 hb5 hps1 hps2 hpz1 hpz2 ha5
      rw [HD.out.1] at d0
      rw [HD.out.2.1] at d1
      rw [HD.out.2.2] at d2
      have hchk : Calls Tryd.prog 20 #[.agg #[.int .i64 s.t, .int .i64 z.t, .int .i64 ((m + 1 : Nat) : Int), .slice au x.d.length cu]] w5.drew fun e w' => e = .returned (.int .u16 0) ∧ Below w5.heap.size w5.drew w' := by
        rw [← HD.out.1, ← HD.out.2.1, ← HD.out.2.2]
        refine (check_any w5.drew x _ 0 w2.heap.size ((HSL.out.below HB5.out (by omega)).below (drew_b w5) (by omega)) (by show _ ≤ w5.heap.size; omega) ((((HT.out.below HB4.out hlb).below HBE.out (by omega)).below HB5.out (by omega)).below (drew_b w5) (by omega))).mono ?_
        rintro e w' ⟨⟨er, rfl, ⟨rfl, _⟩ | ⟨_, h⟩⟩, hb⟩
        · exact ⟨rfl, hb⟩
        · rw [HP.out] at h; cases h
      have HCHK := Lib.hid hchk
      clear hchk
      go_wp2_with fail
      go_region_held3 (fun w' => w'.cell? ⟨b, off + k * 4, none⟩ = some (.int .i64 s.t) ∧ w'.cell? ⟨b, off + k * 4 + 1, none⟩ = some (.int .i64 z.t) ∧ w'.cell? ⟨b, off + k * 4 + 2, none⟩ = some (.int .i64 ((m + 1 : Nat) : Int)) ∧ w'.cell? ⟨b, off + k * 4 + 3, none⟩ = some (.slice au x.d.length cu) ∧ w'.cell? ⟨g5, 0, none⟩ = some (.int .i64 s.t) ∧ w'.cell? ⟨g5, m * 2, none⟩ = some (.int .i64 z.t)) (first | assumption | exact ⟨d0, d1, d2, d3, n0, n1⟩ | exact ⟨f0, f1, f2, f3, f4, f5⟩) (first | (go_at_call 20; refine Calls.mono HCHK.out ?_; rintro e w6 ⟨rfl, hb6⟩; have f0 := (hb6.cell (p := ⟨b, off + k * 4, none⟩) (show b < w5.heap.size by omega)).trans d0; have f1 := (hb6.cell (p := ⟨b, off + k * 4 + 1, none⟩) (show b < w5.heap.size by omega)).trans d1; have f2 := (hb6.cell (p := ⟨b, off + k * 4 + 2, none⟩) (show b < w5.heap.size by omega)).trans d2; have f3 := (hb6.cell (p := ⟨b, off + k * 4 + 3, none⟩) (show b < w5.heap.size by omega)).trans d3; have f4 := (hb6.cell (p := ⟨g5, 0, none⟩) (show g5 < w5.heap.size by omega)).trans n0; have f5 := (hb6.cell (p := ⟨g5, m * 2, none⟩) (show g5 < w5.heap.size by omega)).trans n1; have HB6 := Lib.hid hb6; clear hb6))
      have HOW := Lib.hid (own_of_same HROW.out (fun q hq => ((HB6.out.block q (by have := HROW.out.lt q hq; omega)).trans (HB5.out.block q (HROW.out.lt q hq).2))))
      have HPW := Lib.hid (own_of_same HO5.out (fun q hq => HB6.out.block q (HO5.out.lt q hq).2))
      have hs6 : w5.heap.size ≤ w6.heap.size := HB6.out.size
      have hol := HOL.out
      have hsm : (smCs p).length = (m + 1) * 2 := by rw [smCs_len, HPL.out]
      go_wp2_with (at_builtin; refine wpList_append_own _ rfl (.tmp 101) (.tmp 102) 22 rfl w4.heap.size 70 i0 (.agg #[.int .i64 0, .int .u64 0]) 2 16 Tryd.underlying22 hi0 hz0 hz1 hz2 rfl (by decide) _ _ _ rfl HOW.out ⟨g5, 0, none⟩ (m + 1) c5 (smCs p) rfl hsm (HPW.out.cells (g := g5) rfl) (smCs_one p) (by unfold maxLen; omega) (by omega) (by omega) ?_; intro v7 w7 hown7 hgrow7 _; have HO7 := Lib.hid hown7; have HG7 := Lib.hid hgrow7; clear hown7 hgrow7)
      go_roundw
      case rel =>
        refine ⟨k + 1, by omega, by push_cast; rfl, ?_, ?_, ?_⟩
        · rw [HOU.out, smCs_app, List.length_append, HPL.out]
          exact HO7.out
        · rw [HOU.out, List.length_append, HPL.out]; omega
        · have hb6' : Below w4.heap.size wr w6 := (HB5.out.mono hsz).trans (((drew_b w5).trans HB6.out).mono (by omega))
          exact (HBE.out.trans hb6').grown HG7.out (by omega) (fun q hq => (HROW.out.lt q hq).1)
      case measure => simp [intOf]; omega
    · obtain rfl : k = X.length := by omega
      have hrow := HROW.out
      rw [HOK.out.2] at hrow
      obtain ⟨a7, c7, hv7, hs7⟩ := Sms.owns hrow (by unfold maxLen; omega) (fun s hs => by have := HGL.out.far s hs; unfold Gz.far at this; omega)
      subst hv7
      have HS7 := Lib.hid hs7
      have HSA := Lib.hid (HS1'.out.below HBE.out (by omega))
      have HSB := Lib.hid (HS3'.out.below HBE.out hz4)
      clear hs7 hrow
      go_wp2_with fail
      refine Calls.mono (by exact sameSm_any w3.heap.size w1.heap.size wr a3 a1 c3 c1 R R HSB.out HSA.out) ?_
      rintro e w8 ⟨b8, rfl, hb8, n8, rfl⟩
      obtain rfl : b8 = true := hb8.2 rfl
      go_wp2_with fail
      refine Calls.mono (by exact sameSm_any wr.heap.size w1.heap.size (wr.drewN n8) a7 a1 c7 c1 R R (HS7.out.below (drewN_b wr n8) (Nat.le_refl _)) (HSA.out.below (drewN_b wr n8) (by omega))) ?_
      rintro e w9 ⟨b9, rfl, hb9, n9, rfl⟩
      obtain rfl : b9 = true := hb9.2 rfl
      go_wp2_with fail
      go_ret
      exact ⟨by simp, (HB4.out.trans (HBE.out.mono hzW)).trans ((drewN_b wr _).mono (by omega))⟩
end Go.Proofs.YtepjpdhmjchakaaDoor.gorillaBack
