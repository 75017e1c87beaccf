/- The walk of FrameBack. No condition. -/
import Derived.Test.YtckmeomhcikmoaaFrSame
import Derived.Test.YtckmeomhcikmoaaRow
namespace Go.Proofs.Ytckmeomhcikmoaa.frameBack
open Go.RowKit
set_option maxRecDepth 100000
set_option maxHeartbeats 1500000

theorem info3 : (Try.prog.info? 3).map (fun i => (i.zero, i.size, i.bytes)) = some (some (.int .i64 0), 1, 8) := by kernel_rfl
theorem und80 : Try.prog.underlying 80 = some (.slice 3) := by kernel_rfl

theorem begs_pick (rs : List (List UInt8)) (K : Nat) (hK : K < Fr.tot rs) :
    ∃ m s, (Fr.begs 0 rs)[m]? = some s ∧ s ≤ K ∧ (∀ t, (Fr.begs 0 rs)[m + 1]? = some t → K < t) ∧ (∀ i, i ≤ m → ∃ s, (Fr.begs 0 rs)[i]? = some s ∧ s ≤ K) := by
  have h0 : (Fr.begs 0 rs)[0]? = some 0 := by
    cases rs with
    | nil => rw [Fr.tot] at hK; omega
    | cons r rs => rfl
  have claim : ∀ f m, (Fr.begs 0 rs).length ≤ m + f → (∀ i, i ≤ m → ∃ s, (Fr.begs 0 rs)[i]? = some s ∧ s ≤ K) →
      ∃ m s, (Fr.begs 0 rs)[m]? = some s ∧ s ≤ K ∧ (∀ t, (Fr.begs 0 rs)[m + 1]? = some t → K < t) ∧ (∀ i, i ≤ m → ∃ s, (Fr.begs 0 rs)[i]? = some s ∧ s ≤ K) := by
    intro f
    induction f with
    | zero =>
      intro m hm h
      obtain ⟨s, hs, _⟩ := h m (Nat.le_refl _)
      have := (List.getElem?_eq_some_iff.1 hs).1
      omega
    | succ f ih =>
      intro m hm h
      obtain ⟨s, hs, hsK⟩ := h m (Nat.le_refl _)
      cases hn : (Fr.begs 0 rs)[m + 1]? with
      | none => exact ⟨m, s, hs, hsK, (fun t ht => by rw [hn] at ht; cases ht), h⟩
      | some t =>
        by_cases ht : K < t
        · exact ⟨m, s, hs, hsK, (fun t' ht' => by rw [hn] at ht'; injection ht' with e; omega), h⟩
        · refine ih (m + 1) (by omega) (fun i hi => ?_)
          rcases Nat.lt_or_ge i (m + 1) with h1 | h1
          · exact h i (by omega)
          · have : i = m + 1 := by omega
            subst this
            exact ⟨t, hn, by omega⟩
  exact claim (Fr.begs 0 rs).length 0 (by omega) (fun i hi => by
    have : i = 0 := by omega
    subst this
    exact ⟨0, h0, Nat.zero_le _⟩)

theorem lay_rows (seg : BitVec 32) (rs : List (List UInt8)) : ∀ j, ∀ r ∈ Fr.lay seg j rs, r.length = 256 := by
  induction rs with
  | nil => intro j r hr; cases hr
  | cons a rs ih =>
    intro j r hr
    rw [Fr.lay] at hr
    rcases List.mem_append.1 hr with hr | hr
    · rw [Fr.splitL, List.mem_map] at hr
      obtain ⟨i, _, rfl⟩ := hr
      exact Fr.one_len _ _ _ _ _
    · exact ih _ r hr
theorem lies_apart {w : World} {base' n' : Nat} {e' : TypeId} {v u : Value} {ys : List Value} {g H : Nat} (hu : w.ownsRow base' e' 1 u n' ys) (hap : ∀ b, v.ownBlock = some b → u.ownBlock ≠ some b) (hl : v.ownBlock = some g ∨ g = H) (hH : w.heap.size ≤ H) : u.ownBlock ≠ some g := by
  intro e1
  rcases hl with h | h
  · exact hap g h e1
  · have := (hu.lt g e1).2
    omega

theorem walk (a0 : Int) (v1 : Value) (rows1 : List (List UInt8)) (a2 : Int) (w : World) (w0 : (Lit.int .u32 a0).wf = true) (w1 : Rws 0 w.heap.size w v1 rows1) (w2 : (Lit.int .u8 a2).wf = true) :
    Calls Try.prog 9 #[.int .u32 a0, v1, .int .u8 a2] w fun e w' => e = .returned (.bool true) ∧ Below w.heap.size w w' := by
  obtain ⟨seg, rfl⟩ := of_wf32 w0
  obtain ⟨A2, rfl, hA2⟩ : ∃ A : Nat, a2 = (A : Int) ∧ A < 256 := by
    have := w2; simp [Lit.wf, IntKind.min, IntKind.max, IntKind.signed, IntKind.bits] at this; exact ⟨a2.toNat, by omega, by omega⟩
  have HW1 := Lib.hid w1
  obtain ⟨vs0, hvl, ⟨ao, cap, rfl, hv⟩, hrows⟩ := w1
  have hl := hv.len
  rw [hvl] at hl HW1 ⊢
  have HV := Lib.hid hv
  have HL := Lib.hid hvl
  have HR := Lib.hid hrows
  clear hv hvl hrows w0 w2
  obtain ⟨i0, hi0, hz0, hz1, hz2⟩ := info_parts info5
  obtain ⟨i1, hi1, hy1, hy2, hy3⟩ := info_parts info23
  obtain ⟨i3, hi3, hx1, hx2, hx3⟩ := info_parts info3
  go_enter Try.func9, Try.ntmps9
  go_wp2_with fail
  refine (much_any 0 w.heap.size w _ rows1 HW1.out).mono ?_
  rintro e wm ⟨m, rfl, hm, rfl⟩
  cases m with
  | true =>
    clear hm
    go_wp2_with (go_at_call 23; refine (frKnown_any _).mono ?_; rintro e w1 ⟨rfl, hb1⟩)
    go_ret
    exact ⟨rfl, hb1⟩
  | false =>
  have hm := hm rfl
  go_wp2_with fail
  refine (frKnown_any _).mono ?_
  rintro e w1 ⟨rfl, hb1⟩
  have HB1 := Lib.hid hb1
  clear hb1
  go_wp2_with fail
  go_loopw [7, 8, 9, 10] (fun all recs begs i wr => ∃ (k : Nat) (vsA rv : List Value), k ≤ rows1.length ∧ k ≤ 40 ∧ i = .int .i64 k ∧ ORow wr w.heap.size all vsA (Fr.lay seg 0 (Fr.acc (rows1.take k))) ∧ Rec w wr w.heap.size recs rv (Fr.acc (rows1.take k)) ∧
      wr.ownsRow w.heap.size 3 1 begs (Fr.begs 0 (Fr.acc (rows1.take k))).length ((Fr.begs 0 (Fr.acc (rows1.take k))).map fi) ∧ (∀ b, all.ownBlock = some b → recs.ownBlock ≠ some b) ∧ Below w.heap.size w wr) (fun _ _ _ i _ => rows1.length - (intOf i).toNat)
  case atStart => exact ⟨0, [], [], by omega, by omega, rfl, ORow.nil _ _, Rec.nil _ _ _, World.ownsRow_nil _ _ _ _, (fun b hb => by cases hb), HB1.out⟩
  case round =>
    obtain ⟨k, vsA, rv, hk, hk40, rfl, hall, hrec, hbeg, hap, hbel⟩ := hrel
    have hok := Fr.acc_ok (rows1.take k)
    obtain ⟨A, hA⟩ : ∃ A, A = Fr.acc (rows1.take k) := ⟨_, rfl⟩
    rw [← hA] at hall hrec hbeg hok
    have hAl : A.length ≤ 40 := by
      have h1 := hok.2.2
      have : (rows1.take k).length ≤ k := List.length_take_le _ _
      omega
    obtain ⟨T, hT⟩ : ∃ T, T = Fr.tot A := ⟨_, rfl⟩
    have hT32 : T ≤ 32 := by rw [hT]; exact hok.2.1
    have hvA : vsA.length = T := by rw [hall.len, Fr.lay_len, hT]
    have hrl := hrec.len
    obtain ⟨aA, cA, hAv⟩ := own_slice hall.row
    rw [hvA] at hAv
    subst hAv
    obtain ⟨aR, cR, hRv⟩ := own_slice hrec.row
    rw [hrl] at hRv
    subst hRv
    have hbl : (Fr.begs 0 A).length = A.length := Fr.begs_len 0 A
    obtain ⟨aB, cB, hBv⟩ := own_slice hbeg
    rw [hbl] at hBv
    subst hBv
    have HALL := Lib.hid hall
    have HREC := Lib.hid hrec
    have HBEG := Lib.hid hbeg
    have HAP := Lib.hid hap
    have HOK := Lib.hid hok
    have HA := Lib.hid hA
    have HT := Lib.hid hT
    have HVA := Lib.hid hvA
    have HRL := Lib.hid hrl
    have HBL := Lib.hid hbl
    have hbs := hbel.size
    clear hall hrec hbeg hap hok hA hT hvA hrl hbl
    by_cases hgo : k < rows1.length ∧ k < 40
    · obtain ⟨hlt, hlt40⟩ := hgo
      have hlt' : k < vs0.length := by rw [HL.out]; exact hlt
      obtain ⟨b, off, rfl, _, hbw, hcell⟩ := HV.out.cells (by intro e; subst e; simp at hlt')
      obtain ⟨ar, capr, hvr, hsr⟩ := HR.out k hlt hlt'
      have hc0 : w.cell? ⟨b, off + k, none⟩ = some (.slice ar rows1[k].length capr) := by rw [hcell k hlt', hvr]; rfl
      have hc1 : wr.cell? ⟨b, off + k, none⟩ = some (.slice ar rows1[k].length capr) := (hbel.cell (p := ⟨b, off + k, none⟩) hbw).trans hc0
      obtain ⟨r, hr⟩ : ∃ r, r = rows1[k] := ⟨_, rfl⟩
      have HSR := Lib.hid (show Sl 0 w.heap.size f8 w (.slice ar r.length capr) r from ⟨_, _, rfl, by rw [hr]; exact hsr⟩)
      rw [← hr] at hc0 hc1
      have hacc1 : Fr.acc (rows1.take (k + 1)) = Fr.acc1 A r := by rw [List.take_succ_eq_append_getElem hlt, Fr.acc_snoc, HA.out, hr]
      have HACC := Lib.hid hacc1
      have HC0 := Lib.hid hc0
      clear hcell hvr hsr hacc1 hr hc0
      by_cases hacc : r.length ≤ 7680 ∧ T + Fr.cnt r ≤ 32
      · have hsp : Fr.splitW seg (T : Int) r = (Fr.splitL seg T r, 0) := Fr.splitW_ok hacc.1 hacc.2
        have HACC2 : Hid (Fr.acc1 A r = A ++ [r]) := Lib.hid (by unfold Fr.acc1 Fr.accB; rw [if_pos]; rw [← HT.out]; exact decide_eq_true hacc)
        have HSP := Lib.hid hsp
        have hcr := Fr.cnt_pos r
        obtain ⟨cr, hcre⟩ : ∃ cr, cr = Fr.cnt r := ⟨_, rfl⟩
        rw [← hcre] at hacc hcr
        have HCR := Lib.hid hcre
        clear hsp hcre
        go_wp2_with fail
        refine Calls.mono (split_at 0 w.heap.size wr _ seg (by rfl) _ (by omega) _ r (by exact HSR.out.below hbel (Nat.le_refl _)) hbs _ _ HSP.out) ?_
        rintro e w2 ⟨u2, vs2, rfl, hr2, hb2⟩
        have hl2 : vs2.length = cr := by rw [hr2.len, Fr.splitL_len, HCR.out]
        obtain ⟨g2, c2, hu2, hg2, _⟩ := own_shape hr2.row (by omega)
        rw [hl2] at hu2
        subst hu2
        have hs2 := hb2.size
        have HR2 := Lib.hid hr2
        have HB2 := Lib.hid hb2
        have HL2 := Lib.hid hl2
        have hcw2 : w2.cell? ⟨b, off + k, none⟩ = some (.slice ar r.length capr) := (hb2.cell (p := ⟨b, off + k, none⟩) (Nat.lt_of_lt_of_le hbw hbs)).trans hc1
        clear hr2 hb2 hl2 hc1
        go_wp2_with (first
          | (at_builtin; refine wpList_append_lies _ rfl (.tmp 58) (.tmp 63) 30 rfl w.heap.size 23 i1 (.slice none 0 0) 1 24 Try.underlying30 hi1 hy1 hy2 hy3 rfl (by decide) _ A.length rv rfl (by have h := HREC4.out.row.alloc (o := (.cells #[.slice ar r.length capr] 23)); rw [HRL.out] at h; exact h) ⟨w4.heap.size, 0, none⟩ 1 1 [.slice ar r.length capr] rfl rfl (news_alloc w4 [.slice ar r.length capr] 23) (by intro u hu; cases hu with | head => rfl | tail _ h => cases h) (by decide) (by unfold maxLen; omega) (by omega) (by simp; omega) (w4.heap.size + 1) (by simp) ?_; intro g5 c5 w5 hown5 hgr5 hlie5 hlt5; have HO5 := Lib.hid hown5; have HG5 := Lib.hid hgr5; have HLIE5 := Lib.hid hlie5; clear hown5 hgr5 hlie5)
          | (at_builtin; refine wpList_append_lies _ rfl (.tmp 55) (.tmp 56) 30 rfl w.heap.size 23 i1 (.slice none 0 0) 1 24 Try.underlying30 hi1 hy1 hy2 hy3 rfl (by decide) _ T vsA rfl (by have h := HALL3.out.row; rw [HVA.out] at h; exact h) ⟨g2, 0, none⟩ cr c2 vs2 rfl (by rw [HL2.out, Nat.mul_one]) (HR3.out.row.cells (g := g2) rfl) (by have h := HR3.out.ones; rw [map_fv] at h; exact h) (by omega) (by unfold maxLen; omega) (by omega) (by omega) w3.heap.size rfl ?_; intro g4 c4 w4 hown4 hgr4 hlie4 hlt4; have hall4 := HALL3.out.cat (w' := w4) (HR3.out.mono hbs) (fun x hx y hy q hq e1 => by have h1 := (HALL.out.lt.2 x hx q hq).2; have h2 := (HR2.out.lt.2 y hy q e1).1; omega) (by rw [HVA.out, HL2.out]; exact hown4) hgr4; have hrec4 : Rec w w4 w.heap.size (.slice aR A.length cR) rv A := HREC3.out.kept hgr4 (by rcases hvb : Value.ownBlock (.slice aR A.length cR) with _ | q; exact .inl rfl; exact .inr (fun e1 => HAP.out q e1.symm hvb)); have hbeg4 := HO3.out.kept hgr4 (by rcases hvb : Value.ownBlock v3 with _ | q; exact .inl rfl; exact .inr (fun e1 => own_apart HALL3.out.row HO3.out (by decide) q e1.symm hvb)); have hb4 := hb3.grown hgr4 hb3.size (fun q hq => (HALL3.out.lt.1 q hq).1); have hs4 := hb4.size; have hap4 : ∀ q, Value.ownBlock (.slice (some ⟨g4, 0, none⟩) (T + cr) c4) = some q → Value.ownBlock (.slice aR A.length cR) ≠ some q := (fun q hq => by injection hq with hq; have e2 : g4 = q := hq; subst e2; exact lies_apart HREC3.out.row HAP.out hlie4 (Nat.le_refl _)); have HALL4 := Lib.hid hall4; have HREC4 := Lib.hid hrec4; have HBEG4 := Lib.hid hbeg4; have HAP4 := Lib.hid hap4; have hcw4 : w4.cell? ⟨b, off + k, none⟩ = some (.slice ar r.length capr) := (hb4.cell (p := ⟨b, off + k, none⟩) hbw).trans HC0.out; clear hown4 hgr4 hlie4 hall4 hrec4 hbeg4 hap4)
          | (at_builtin; refine wpList_append_own _ rfl (.tmp 50) (.tmp 53) 80 rfl w.heap.size 3 i3 (.int .i64 0) 1 8 und80 hi3 hx1 hx2 hx3 rfl (by decide) _ A.length ((Fr.begs 0 A).map fi) rfl (by have h := (own_below HBEG.out HB2.out (Nat.le_refl _)).alloc (o := (.cells #[.int .i64 (T : Int)] 3)); rw [HBL.out] at h; exact h) ⟨w2.heap.size, 0, none⟩ 1 1 [.int .i64 (T : Int)] rfl rfl (news_alloc w2 [.int .i64 (T : Int)] 3) (by intro u hu; cases hu with | head => rfl | tail _ h => cases h) (by unfold maxLen; omega) (by omega) (by simp; omega) ?_; intro v3 w3 hown3 hgr3 _; have hb02 := hbel.trans (HB2.out.mono hbs); have hb3 := (hb02.alloc (by omega) (.cells #[.int .i64 (T : Int)] 3)).grown hgr3 (by simp; omega) (fun q hq => (own_below HBEG.out HB2.out (Nat.le_refl _)).lt q hq |>.1); have hsz3 := hb3.size; have hrow3 : ORow w3 w.heap.size (.slice aA T cA) vsA (Fr.lay seg 0 A) := ((HALL.out.below HB2.out (Nat.le_refl _)).same (fun q hq => (grown_alloc hgr3).block q ((HALL.out.below HB2.out (Nat.le_refl _)).lt.1 q hq).2 (fun e1 => own_apart (own_below HBEG.out HB2.out (Nat.le_refl _)) (HALL.out.below HB2.out (Nat.le_refl _)).row (by decide) q e1.symm hq)) (fun x hx q hq => (grown_alloc hgr3).block q ((HALL.out.below HB2.out (Nat.le_refl _)).lt.2 x hx q hq).2 (fun e1 => by obtain ⟨i, hi⟩ := List.getElem?_of_mem hx; obtain ⟨rr, _, hxr⟩ := (HALL.out.below HB2.out (Nat.le_refl _)).at hi; exact own_apart (own_below HBEG.out HB2.out (Nat.le_refl _)) hxr (by decide) q e1.symm hq))); have hr3 : ORow w3 wr.heap.size (.slice (some ⟨g2, 0, none⟩) cr c2) vs2 (Fr.splitL seg T r) := (HR2.out.same (fun q hq => (grown_alloc hgr3).block q (HR2.out.lt.1 q hq).2 (fun e1 => own_apart (own_below HBEG.out HB2.out (Nat.le_refl _)) HR2.out.row (by decide) q e1.symm hq)) (fun x hx q hq => (grown_alloc hgr3).block q (HR2.out.lt.2 x hx q hq).2 (fun e1 => by obtain ⟨i, hi⟩ := List.getElem?_of_mem hx; obtain ⟨rr, _, hxr⟩ := HR2.out.at hi; exact own_apart (own_below HBEG.out HB2.out (Nat.le_refl _)) hxr (by decide) q e1.symm hq))); have hrec3 : Rec w w3 w.heap.size (.slice aR A.length cR) rv A := (HREC.out.below HB2.out (Nat.le_refl _)).kept (grown_alloc hgr3) (by rcases hvb : Value.ownBlock (.slice aR A.length cR) with _ | q; exact .inl rfl; exact .inr (fun e1 => own_apart (own_below HBEG.out HB2.out (Nat.le_refl _)) (HREC.out.below HB2.out (Nat.le_refl _)).row (by decide) q e1.symm hvb)); have HO3 := Lib.hid (show w3.ownsRow w.heap.size 3 1 v3 ((Fr.begs 0 A).length + 1) ((Fr.begs 0 A).map fi ++ [Fr.tot A].map fi) from by rw [HBL.out, ← HT.out]; exact hown3); have HALL3 := Lib.hid hrow3; have HR3 := Lib.hid hr3; have HREC3 := Lib.hid hrec3; clear hown3 hgr3 hrow3 hr3 hrec3 hcw2))
        go_roundw
        case rel =>
          have hb5 := hb4.grown (grown_alloc HG5.out) hb4.size (fun q hq => (HREC4.out.row.lt q hq).1)
          have hall5 := HALL4.out.same (w' := w5) (fun q hq => (grown_alloc HG5.out).block q (HALL4.out.lt.1 q hq).2 (fun e1 => HAP4.out q hq e1.symm)) (fun x hx q hq => (grown_alloc HG5.out).block q (HALL4.out.lt.2 x hx q hq).2 (fun e1 => by
            obtain ⟨i, hi⟩ := List.getElem?_of_mem hx
            obtain ⟨rr, _, hxr⟩ := HALL4.out.at hi
            exact own_apart HREC4.out.row hxr (by decide) q e1.symm hq))
          have hbeg5 := HBEG4.out.kept (grown_alloc HG5.out) (by
            rcases hvb : (Value.ownBlock v3) with _ | q
            · exact .inl rfl
            · exact .inr (fun e1 => own_apart HREC4.out.row HBEG4.out (by decide) q e1.symm hvb))
          have hrec5 := HREC4.out.snoc (r := r) HSR.out (by rw [HRL.out]; exact HO5.out)
          refine ⟨k + 1, vsA ++ vs2, rv ++ [.slice ar r.length capr], by omega, by omega, by go_num, ?_, ?_, ?_, ?_, hb5⟩
          · rw [HACC.out, HACC2.out, Fr.lay_snoc, Nat.zero_add, ← HT.out]
            exact hall5
          · rw [HACC.out, HACC2.out]
            exact hrec5
          · rw [HACC.out, HACC2.out, Fr.begs_snoc, Nat.zero_add, ← HT.out, List.length_append, List.map_append]
            have h5 := hbeg5
            rw [← HT.out] at h5
            exact h5
          · intro q hq e1
            injection e1 with e1
            have e2 : g5 = q := e1
            subst e2
            rcases HLIE5.out with h5 | h5
            · exact HAP4.out _ hq h5
            · have := (HALL4.out.lt.1 _ hq).2
              omega
        case measure => simp [intOf]; omega
      · obtain ⟨hn1, hn2⟩ := Fr.splitW_no (seg := seg) hacc
        obtain ⟨E, hE⟩ : ∃ E, E = (Fr.splitW seg (T : Int) r).2 := ⟨_, rfl⟩
        have HSP := Lib.hid (show Fr.splitW seg (T : Int) r = ([], E) from Prod.ext hn1 hE.symm)
        have hE0 : ((E : Int) != 0) = true := by
          have : E ≠ 0 := by rw [hE]; exact hn2
          simp; omega
        have HACC2 : Hid (Fr.acc1 A r = A) := Lib.hid (by unfold Fr.acc1 Fr.accB; rw [if_neg]; rw [← HT.out]; simpa using hacc)
        clear hn1 hn2 hE hacc
        go_wp2_with fail
        refine Calls.mono (split_at 0 w.heap.size wr _ seg (by rfl) _ (by omega) _ r (by exact HSR.out.below hbel (Nat.le_refl _)) hbs _ _ HSP.out) ?_
        rintro e w2 ⟨u2, vs2, rfl, hr2, hb2⟩
        have HB2 := Lib.hid hb2
        clear hr2 hb2 hc1
        go_wp2_with fail
        go_roundw
        case rel =>
          refine ⟨k + 1, vsA, rv, by omega, by omega, by go_num, ?_, ?_, ?_, HAP.out, hbel.trans (HB2.out.mono hbs)⟩
          · rw [HACC.out, HACC2.out]; exact HALL.out.below HB2.out (Nat.le_refl _)
          · rw [HACC.out, HACC2.out]; exact HREC.out.below HB2.out (Nat.le_refl _)
          · rw [HACC.out, HACC2.out]; exact own_below HBEG.out HB2.out (Nat.le_refl _)
        case measure => simp [intOf]; omega
    · have hex : (¬ (k : Int) < (rows1.length : Int)) ∨ ((k : Int) < (rows1.length : Int) ∧ ¬ (k : Int) < 40) := by omega
      have hsc := Fr.scan_acc seg (rows1.take k)
      rw [← HA.out, ← HT.out] at hsc
      have HSC := Lib.hid hsc
      have hlr : ∀ r ∈ Fr.lay seg 0 A, r.length ≤ 140737488355328 := fun r hr => by rw [lay_rows seg A 0 r hr]; decide
      have HLR := Lib.hid hlr
      have hla : (Fr.lay seg 0 A).length = T := by rw [Fr.lay_len, HT.out]
      have HLA := Lib.hid hla
      have HRA := Lib.hid (show ∀ r ∈ A, r.length ≤ 140737488355328 from fun r hr => by have := HOK.out.1 r hr; omega)
      have hsame : ∀ X : List (List UInt8), sameR X X = true := fun X => by simp [sameR]
      have HSAME := Lib.hid hsame
      clear hgo hsc hlr hla hsame
      rcases hex with hx | ⟨hx, hx'⟩
      all_goals
        go_wp2_with fail
        refine Calls.mono (scan_at w.heap.size wr.heap.size wr _ seg (by rfl) _ _ (HALL.out.rws (by rw [HLA.out]; omega) HLR.out) (by rw [HLA.out]; omega) (Nat.le_refl _) _ _ HSC.out) ?_
        rintro e w3 ⟨u3, vs3, rfl, hr3, hb3⟩
        have HRW3 := Lib.hid (hr3.rws (by omega) HRA.out)
        have hb3' := hbel.trans (hb3.mono hbs)
        have HRC3 := Lib.hid ((HREC.out.below hb3 (Nat.le_refl _)).rws hb3' (by omega))
        have HS3 := Lib.hid hb3
        clear hr3 hb3 hb3'
        go_wp2_with fail
        refine (sameRows_any _ _ _ _ _ _ _ A A HRW3.out HRC3.out).mono ?_
        rintro e w4 ⟨rfl, n4, hw4⟩
        rw [HSAME.out]
        have hb4 : Below wr.heap.size wr w4 := HS3.out.trans (by rw [hw4]; exact drew_below _ _ _)
        have hs4 := hb4.size
        have HS4 := Lib.hid hb4
        clear hw4 hb4
        by_cases hT0 : T = 0
        · have t0 : ((T : Int) == 0) = true := by rw [hT0]; rfl
          clear hT0
          go_wp2_with fail
          go_ret
          exact ⟨rfl, hbel.trans (HS4.out.mono hbs)⟩
        · have t0 : ((T : Int) == 0) = false := by simp; omega
          have hTp : 1 ≤ T := by omega
          have hAp : 1 ≤ A.length := by
            cases hh : A with
            | nil => have := HT.out; rw [hh, Fr.tot] at this; omega
            | cons a l => simp
          obtain ⟨K, hK, hKT⟩ : ∃ K, K = A2 % T ∧ K < T := ⟨_, rfl, Nat.mod_lt _ (by omega)⟩
          have hm1 : (A2 : Int) % (T : Int) = (K : Int) := by rw [hK]; rfl
          have hm2 : (A2 : Int).tmod (T : Int) = (K : Int) := by rw [Int.tmod_eq_emod_of_nonneg (by omega)]; exact hm1
          obtain ⟨mm, s, hms, hsK, hnx, hbe⟩ := begs_pick A K (by rw [← HT.out]; exact hKT)
          have hsc2 := Fr.scan_acc_hurt seg (rows1.take k) K mm s (by rw [← HA.out, ← HT.out]; exact hKT) (by rw [← HA.out]; exact hms) hsK (by rw [← HA.out]; exact hnx)
          rw [← HA.out] at hsc2
          have HSC2 := Lib.hid hsc2
          have hmm : mm < A.length := by have := (List.getElem?_eq_some_iff.1 hms).1; rw [HBL.out] at this; exact this
          obtain ⟨gA, cA', hAv, _, _⟩ := own_shape HALL.out.row (by rw [HVA.out]; omega)
          injection hAv with h1 h0 h2
          subst h1 h2
          clear h0
          obtain ⟨gR, cR', hRv, _, _⟩ := own_shape HREC.out.row (by rw [HRL.out]; omega)
          injection hRv with h1 h0 h2
          subst h1 h2
          clear h0
          obtain ⟨gB, cB', hBv, _, _⟩ := own_shape HBEG.out (by rw [HBL.out]; omega)
          injection hBv with h1 h0 h2
          subst h1 h2
          clear h0
          have hcapR : mm ≤ cR := by have := own_cap_le HREC.out.row; rw [HRL.out] at this; omega
          have HMS := Lib.hid hms
          have HNX := Lib.hid hnx
          have HBE := Lib.hid hbe
          have j1 : (0 : Int) ≤ (K : Int) ∧ (K : Int) < (T : Int) := by omega
          have hrow := HALL.out.below HS4.out (Nat.le_refl _)
          have hsl : SlC w.heap.size w4.heap.size fv w4 (some ⟨gA, 0, none⟩) cA vsA := by
            obtain ⟨a', c', he, hs⟩ := Sl.owns (f := fv) (l := vsA) (by rw [map_fv]; exact hrow.row) (by rw [HVA.out]; omega)
            rw [HVA.out] at he
            injection he with e1 _ e2
            subst e1 e2
            exact hs
          have HSL := Lib.hid hsl
          have HROW := Lib.hid hrow
          clear hT0 hK hms hnx hbe hsc2 hrow hsl
          go_wp2_with (first
            | (at_make; refine wpList_make_full _ rfl _ _ 23 rfl w5.heap.size 5 i0 (.int .u8 0) 1 Try.underlying23 hi0 hz0 hz1 .i64 .i64 _ _ 256 rfl rfl (by rfl) (by rfl) (by rw [hz2]; omega) (by decide) (Nat.le_refl _) ?_; intro w6 hown6 hgr6; rw [noughts_made] at hown6; have hb6 : Below w5.heap.size w5 w6 := (Below.refl _ _).grown hgr6 (Nat.le_refl _) (by intro q hq; cases hq); have hown56 := own_below HO5.out hb6 (Nat.le_refl _); have hs6 := hb6.size; have hcS : w6.cell? ⟨gS, K, none⟩ = some (vsA[K]'(by rw [HVA.out]; exact hKT)) := (by rw [hown56.cellAt K (by omega)]; simp [HVA.out, hKT]); have hfS := hown56.frozenAt K; have HO6 := Lib.hid hown6; have HO56 := Lib.hid hown56; have HS6 := Lib.hid hb6; clear hown6 hgr6 hb6 hown56)
            | (at_builtin; refine wpList_append_sl rfl (.tmp 89) (.tmp 90) 30 rfl w4.heap.size 23 i1 (.slice none 0 0) 24 Try.underlying30 hi1 hy1 hy2 hy3 rfl _ 0 [] rfl (World.ownsRow_nil _ _ _ _) (some ⟨gA, 0, none⟩) cA vsA (by rw [HVA.out]; rfl) HSL.out (ORow.ones HROW.out) (by rw [HVA.out]; unfold maxLen; omega) (by rw [HVA.out]; omega) (Nat.le_refl _) ?_; intro v5 w5 hown5 hgr5; rw [Nat.zero_add, List.nil_append, HVA.out, map_fv] at hown5; obtain ⟨gS, cS, hvS, hgS, _⟩ := own_shape hown5 (by omega); subst hvS; have hb5 : Below w4.heap.size w4 w5 := (Below.refl _ _).grown hgr5 (Nat.le_refl _) (fun k h => by cases h); have hs5 := hb5.size; have HO5 := Lib.hid hown5; have HS5 := Lib.hid hb5; clear hown5 hgr5 hb5))
          have hst := HO56.out.stored K (.slice (some ⟨w5.heap.size, 0, none⟩) 256 256)
          have hb7 : Below w4.heap.size w4 (w6.setCell ⟨gS, K, none⟩ (.slice (some ⟨w5.heap.size, 0, none⟩) 256 256)) := (HS5.out.trans (HS6.out.mono hs5)).setCell (by exact hgS) _
          have hz7 : (w6.setCell ⟨gS, K, none⟩ (.slice (some ⟨w5.heap.size, 0, none⟩) 256 256)).ownsRow w5.heap.size 5 1 (.slice (some ⟨w5.heap.size, 0, none⟩) 256 256) 256 ((Fr.noughts 256).map f8) := HO6.out.kept hst.2 (.inr (fun e1 => own_apart HO56.out HO6.out (by decide) _ e1.symm rfl))
          have hrws := rws_set (lo := w.heap.size) (X := Fr.noughts 256) HROW.out hb7 (Nat.le_refl _) (Nat.le_refl _) (own_mono hst.1 (by omega)) HVA.out ((sl_own hz7 (Fr.noughts_len _) (by decide)).mono (by omega) (Nat.le_refl _)) (by omega) HLR.out
          have hB7 : Below w.heap.size w (w6.setCell ⟨gS, K, none⟩ (.slice (some ⟨w5.heap.size, 0, none⟩) 256 256)) := (hbel.trans (HS4.out.mono hbs)).trans (hb7.mono (by omega))
          have hb47 : Below wr.heap.size wr (w6.setCell ⟨gS, K, none⟩ (.slice (some ⟨w5.heap.size, 0, none⟩) 256 256)) := HS4.out.trans (hb7.mono hs4)
          have HRS := Lib.hid hrws
          have HB7 := Lib.hid hB7
          have HS7 := Lib.hid hb47
          clear hst hb7 hz7 hrws hB7 hb47 hcS hfS hm1 hm2
          refine Calls.mono (scan_at w.heap.size _ _ _ seg (by rfl) _ _ HRS.out (by rw [List.length_set, HLA.out]; omega) (Nat.le_refl _) _ _ HSC2.out) ?_
          rintro e w8 ⟨u8, vs8, rfl, hr8, hb8⟩
          have hb78 := HS7.out.trans (hb8.mono HS7.out.size)
          have hB8 := HB7.out.trans (hb8.mono HB7.out.size)
          have hrec8 := HREC.out.below hb78 (Nat.le_refl _)
          have hbeg8 := own_below HBEG.out hb78 (Nat.le_refl _)
          rw [HBL.out] at hbeg8
          have hl8 : vs8.length = mm := by rw [hr8.len, List.length_take]; omega
          have HRW8 := Lib.hid (hr8.rws (by rw [List.length_take]; omega) (fun r hr => HRA.out r (List.mem_of_mem_take hr)))
          have HRC8 := Lib.hid ((hrec8.first HRL.out (Nat.le_of_lt hmm)).rws hB8 (by rw [List.length_take]; omega))
          have hcb : ∀ (i q : Nat), (Fr.begs 0 A)[i]? = some q → w8.cell? ⟨gB, i, none⟩ = some (.int .i64 (q : Int)) := fun i q hq => by
            have hi := (List.getElem?_eq_some_iff.1 hq).1
            rw [hbeg8.cellAt i (by rw [Nat.mul_one, ← HBL.out]; exact hi), List.getElem?_map, hq]; rfl
          have HCB := Lib.hid hcb
          have HB8 := Lib.hid hB8
          obtain ⟨a8, c8, hu8⟩ := own_slice hr8.row
          rw [hl8] at hu8
          subst hu8
          clear hr8 hb8 hb78 hB8 hrec8 hbeg8 hcb hl8
          go_wp2_with fail
          go_loop [19] (fun i => ∃ t : Nat, t ≤ mm ∧ i = .int .i64 t) (fun i => mm - (intOf i).toNat)
          case atStart => exact ⟨0, Nat.zero_le _, rfl⟩
          case round =>
            obtain ⟨t, ht, rfl⟩ := hrel
            by_cases htm : t < mm
            · obtain ⟨q, hq, hqK⟩ := HBE.out (t + 1) (by omega)
              have hc := HCB.out _ _ hq
              have f1 : (t : Int) + 1 < (A.length : Int) := by omega
              have f2 : (q : Int) ≤ (K : Int) := by omega
              clear hq
              go_wp2
              go_round
              case rel => exact ⟨t + 1, by omega, by go_num⟩
              case measure => simp [intOf]; omega
            · have : t = mm := by omega
              subst this
              have hc0 := HCB.out _ _ HMS.out
              have f0 : (t : Int) < (A.length : Int) := by omega
              by_cases hla : t + 1 < A.length
              · obtain ⟨q, hq⟩ : ∃ q, (Fr.begs 0 A)[t + 1]? = some q := ⟨_, List.getElem?_eq_getElem (by rw [HBL.out]; exact hla)⟩
                have hqK := HNX.out q hq
                have hc := HCB.out _ _ hq
                have f1 : (t : Int) + 1 < (A.length : Int) := by omega
                have f2 : ¬ (q : Int) ≤ (K : Int) := by omega
                clear hq
                go_wp2_with (go_at_call 24; refine (sameRows_any _ _ _ _ _ _ _ (A.take t) (A.take t) HRW8.out HRC8.out).mono ?_; rintro e w9 ⟨rfl, n9, hw9⟩; rw [HSAME.out]; have HW9 := Lib.hid hw9; clear hw9)
                go_ret
                exact ⟨rfl, HB8.out.trans (by rw [HW9.out]; exact drew_below _ _ _)⟩
              · have f1 : ¬ (t : Int) + 1 < (A.length : Int) := by omega
                go_wp2_with (go_at_call 24; refine (sameRows_any _ _ _ _ _ _ _ (A.take t) (A.take t) HRW8.out HRC8.out).mono ?_; rintro e w9 ⟨rfl, n9, hw9⟩; rw [HSAME.out]; have HW9 := Lib.hid hw9; clear hw9)
                go_ret
                exact ⟨rfl, HB8.out.trans (by rw [HW9.out]; exact drew_below _ _ _)⟩
end Go.Proofs.Ytckmeomhcikmoaa.frameBack
