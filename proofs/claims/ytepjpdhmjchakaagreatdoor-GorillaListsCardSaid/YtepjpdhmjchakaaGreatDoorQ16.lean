import Derived.Test.YtepjpdhmjchakaaGreatDoorQ11
import Derived.Test.YtepjpdhmjchakaaGreatDoorQ5
import Derived.Test.YtepjpdhmjchakaaGreatDoorQ1
import Derived.Test.YtepjpdhmjchakaaGreatDoorQ7
import Derived.Test.YtepjpdhmjchakaaGreatDoorP13
/- The document's Encode. Condition: the document's list of buckets (BkAt). -/
namespace Go.Proofs.YtepjpdhmjchakaaGreatDoor
open Go.RowKit
set_option linter.unusedVariables false

/-- What both encoders say of a list. -/
def EncPost (w : World) (l : List Gz.Smp) (e : Ending) (w' : World) : Prop :=
  ∃ v us, e = .returned (.tuple #[v, .int .u16 (fitE l)]) ∧ CRow w' w.heap.size v us (if fitE l = 0 then Gz.cut l else []) ∧ Below w.heap.size w w'
theorem Sms.piece {hi : Nat} {w : World} {b off cap : Nat} {l : List Gz.Smp} (h : Sms hi w (some ⟨b, off, none⟩) cap l) (k cap' : Nat) : Sms hi w (some ⟨b, off + 120 * k * 2, none⟩) cap' (Gz.piece l k) := by
  have hp := Gz.piece_len l k
  refine ⟨Nat.le_trans (by omega) (show 120 ≤ maxLen by decide), fun hne => ?_⟩
  obtain ⟨b', off', h1, h2, h3⟩ := h.cells (by intro e; subst e; apply hne; apply List.eq_nil_of_length_eq_zero; rw [hp]; simp)
  injection h1 with h1
  injection h1 with e1 e2
  subst e1 e2
  refine ⟨b, off + 120 * k * 2, rfl, h2, fun j hj => ?_⟩
  obtain ⟨h4, h5⟩ := Gz.piece_get hj
  rw [h5, show off + 120 * k * 2 + j * 2 = off + (120 * k + j) * 2 by omega]
  exact h3 _ h4

theorem xchunk_ck (n : Nat) (w : World) (ao : Option Addr) (cap : Nat) (l : List Gz.Smp) (h : Sms n w ao cap l) (hn : n ≤ w.heap.size) (hf : Gz.Fine l) (hne : 0 < l.length) {b o c b0 o0 c0 b1 o1 c1 b2 o2 c2 : Nat} (hk : BkAt n w b o c b0 o0 c0 b1 o1 c1 b2 o2 c2) (k : Nat) (hk' : l.length = k) :
    Calls Tryz.prog 30 #[.slice ao k cap] w fun e w' => ∃ v, e = .returned (.agg #[.int .i64 (Gz.ckOf (Gz.Ap.all l)).f, .int .i64 (Gz.ckOf (Gz.Ap.all l)).t, .int .i64 ((Gz.ckOf (Gz.Ap.all l)).n : Int), v]) ∧ w'.ownsRow w.heap.size 5 1 v (Gz.ckOf (Gz.Ap.all l)).d.length ((Gz.ckOf (Gz.Ap.all l)).d.map f8) ∧ Below w.heap.size w w' := by
  subst hk'
  refine (xchunk_any n w ao cap l h hn hf hne hk).mono ?_
  rintro e w' ⟨v, rfl, h1, h2⟩
  refine ⟨v, ?_, h1, h2⟩
  unfold chV
  rw [show (Gz.ckOf (Gz.Ap.all l)).n = l.length from Gz.all_n hf]
  rfl

set_option maxHeartbeats 4000000 in
set_option maxRecDepth 100000 in
theorem xencode_any (w : World) (ao : Option Addr) (cap : Nat) (l : List Gz.Smp) (h : Sms w.heap.size w ao cap l) (hle : l.length ≤ cap) (hn : l.length ≤ 2000) {b o c b0 o0 c0 b1 o1 c1 b2 o2 c2 : Nat} (hk : BkAt w.heap.size w b o c b0 o0 c0 b1 o1 c1 b2 o2 c2) :
    Calls Tryz.prog 12 #[.slice ao l.length cap] w fun e w' => EncPost w l e w' := by
  obtain ⟨i0, hi0, hz0, hz1, hz2⟩ := info_parts infoCh
  have H := Lib.hid h
  have HK := Lib.hid hk
  have HGD := Lib.hid (fitE_good (l := l) (fun s hs => (h.fits s hs).2))
  clear h hk
  go_enter Tryz.func12, Tryz.ntmps12
  go_wp2_with fail
  refine Calls.mono (by exact xfits_any w.heap.size w ao cap l H.out) ?_
  rintro e wf ⟨rfl, nf, rfl⟩
  by_cases hE : fitE l = 0
  · have HG := Lib.hid (HGD.out.1 hE)
    have HE0 := Lib.hid hE
    rw [hE]
    clear hE
    go_wp2_with fail
    go_loopw [5, 6] (fun v i wr => ∃ (m : Nat) (us : List Value), m ≤ (l.length + 119) / 120 ∧ i = .int .i64 ((120 * m : Nat) : Int) ∧ CRow wr w.heap.size v us ((List.range m).map (fun k => Gz.ckOf (Gz.Ap.all (Gz.piece l k)))) ∧ Below w.heap.size w wr) (fun _ i _ => l.length + 120 - (intOf i).toNat)
    case atStart => exact ⟨0, [], Nat.zero_le _, rfl, CRow.nil _ _, (drewN_b w nf)⟩
    case round =>
      obtain ⟨m, us, hm, rfl, hrow, hbel⟩ := hrel
      have HR := Lib.hid hrow
      have HB := Lib.hid hbel
      have hs := hbel.size
      clear hrow hbel
      by_cases hlt : 120 * m < l.length
      · obtain ⟨bb, off, hao, hbb, _⟩ := H.out.cells (by intro e; subst e; simp at hlt)
        subst hao
        have gi : decide (120 * (m : Int) < (l.length : Int)) = true := decide_eq_true (by omega)
        have HP := Lib.hid ((H.out.below HB.out (Nat.le_refl _)).piece m (cap - 120 * m))
        have hpl := Gz.piece_len l m
        have HPF := Lib.hid (Gz.piece_fine HG.out m)
        have HCM := Lib.hid (show (List.range (m + 1)).map (fun k => Gz.ckOf (Gz.Ap.all (Gz.piece l k))) = (List.range m).map (fun k => Gz.ckOf (Gz.Ap.all (Gz.piece l k))) ++ [Gz.ckOf (Gz.Ap.all (Gz.piece l m))] by rw [List.range_succ, List.map_append]; rfl)
        by_cases hML : ((120 * m : Nat) : Int) + 120 < (l.length : Int)
        · have hidx : (0 : Int) ≤ ((120 * m : Nat) : Int) ∧ ((120 * m : Nat) : Int) ≤ ((120 * m : Nat) : Int) + 120 ∧ ((120 * m : Nat) : Int) + 120 ≤ (cap : Int) := by omega
          have HCC := Lib.hid (xchunk_ck w.heap.size wr _ _ _ HP.out hs HPF.out (by omega) (HK.out.below HB.out) 120 (by omega))
          generalize hC : Gz.ckOf (Gz.Ap.all (Gz.piece l m)) = C at *
          clear hC HP HPF hpl
          go_wp2_with fail
          refine Calls.mono (by exact HCC.out) ?_
          rintro e w8 ⟨v8, rfl, ho8, hb8⟩
          obtain ⟨a8, c8, rfl⟩ := own_slice ho8
          obtain ⟨w9, hW9⟩ : ∃ w9, w8.alloc (.cells #[.int .i64 C.f, .int .i64 C.t, .int .i64 (C.n : Int), .slice a8 C.d.length c8] 26) = w9 := ⟨_, rfl⟩
          have hb9 : Below w8.heap.size w8 w9 := by rw [← hW9]; exact al_b w8 _
          have hx9 : w9.heap[w8.heap.size]? = some (.cells #[.int .i64 C.f, .int .i64 C.t, .int .i64 (C.n : Int), .slice a8 C.d.length c8] 26 (0, 0)) := by rw [← hW9]; exact heap_alloc_new w8 _
          have hs8 := hb8.size
          have hs9 := hb9.size
          obtain ⟨m0, m1, m2, m3, mz⟩ := box4 hx9
          have hb89 := hb8.trans (hb9.mono hs8)
          have HO8 := Lib.hid (own_of_same ho8 (fun q hq => hb9.block q (ho8.lt q hq).2))
          have HR9 := Lib.hid (HR.out.below hb89 (Nat.le_refl _))
          have HB9 := Lib.hid (HB.out.trans (hb89.mono hs))
          have hoff : ∀ x ∈ us, ∀ k, x.ownBlock = some k → (Value.slice a8 C.d.length c8).ownBlock ≠ some k := fun x hx k hk e => by
            have h1 := (HR.out.lt.2 x hx k hk).2
            have h2 := (ho8.lt k e).1
            omega
          have HOFF := Lib.hid hoff
          clear hb9 hx9 hb89 ho8 hb8 hoff
          go_wp2_with (at_builtin; refine wpList_append_own _ rfl (.tmp 28) (.tmp 30) 23 rfl w.heap.size 26 i0 (.agg #[.int .i64 0, .int .i64 0, .int .i64 0, .slice none 0 0]) 4 48 Tryz.underlying23 hi0 hz0 hz1 hz2 rfl (by decide) _ _ _ rfl (HR9.out.row.alloc _) ⟨w9.heap.size, 0, none⟩ 1 1 [.int .i64 C.f, .int .i64 C.t, .int .i64 (C.n : Int), .slice a8 C.d.length c8] rfl rfl (news_alloc w9 [.int .i64 C.f, .int .i64 C.t, .int .i64 (C.n : Int), .slice a8 C.d.length c8] 26) (by simp [Value.oneCell']) (by simp; unfold maxLen; omega) (by simp; omega) (by simp; omega) ?_; intro v4 w4 hown4 hgrow4 _; have HO4 := Lib.hid hown4; have HG4 := Lib.hid hgrow4; clear hown4 hgrow4)
          go_roundw
          case rel =>
            have hgr := grown_alloc HG4.out
            refine ⟨m + 1, us ++ [.slice a8 C.d.length c8], by omega, by rw [show ((120 * (m + 1) : Nat) : Int) = 120 * (m : Int) + 120 by push_cast; omega], ?_, ?_⟩
            · rw [HCM.out]
              exact HR9.out.snoc (own_low HO8.out hs) HOFF.out HO4.out hgr
            · exact HB9.out.grown hgr (by omega) (fun k hk => (HR9.out.row.lt k hk).1)
          case measure => simp [intOf]; omega
        · have hidx : (0 : Int) ≤ ((120 * m : Nat) : Int) ∧ ((120 * m : Nat) : Int) ≤ (l.length : Int) ∧ (l.length : Int) ≤ (cap : Int) := by omega
          have HCC := Lib.hid (xchunk_ck w.heap.size wr _ _ _ HP.out hs HPF.out (by omega) (HK.out.below HB.out) (l.length - 120 * m) (by omega))
          generalize hC : Gz.ckOf (Gz.Ap.all (Gz.piece l m)) = C at *
          clear hC HP HPF hpl
          go_wp2_with fail
          refine Calls.mono (by exact HCC.out) ?_
          rintro e w8 ⟨v8, rfl, ho8, hb8⟩
          obtain ⟨a8, c8, rfl⟩ := own_slice ho8
          obtain ⟨w9, hW9⟩ : ∃ w9, w8.alloc (.cells #[.int .i64 C.f, .int .i64 C.t, .int .i64 (C.n : Int), .slice a8 C.d.length c8] 26) = w9 := ⟨_, rfl⟩
          have hb9 : Below w8.heap.size w8 w9 := by rw [← hW9]; exact al_b w8 _
          have hx9 : w9.heap[w8.heap.size]? = some (.cells #[.int .i64 C.f, .int .i64 C.t, .int .i64 (C.n : Int), .slice a8 C.d.length c8] 26 (0, 0)) := by rw [← hW9]; exact heap_alloc_new w8 _
          have hs8 := hb8.size
          have hs9 := hb9.size
          obtain ⟨m0, m1, m2, m3, mz⟩ := box4 hx9
          have hb89 := hb8.trans (hb9.mono hs8)
          have HO8 := Lib.hid (own_of_same ho8 (fun q hq => hb9.block q (ho8.lt q hq).2))
          have HR9 := Lib.hid (HR.out.below hb89 (Nat.le_refl _))
          have HB9 := Lib.hid (HB.out.trans (hb89.mono hs))
          have hoff : ∀ x ∈ us, ∀ k, x.ownBlock = some k → (Value.slice a8 C.d.length c8).ownBlock ≠ some k := fun x hx k hk e => by
            have h1 := (HR.out.lt.2 x hx k hk).2
            have h2 := (ho8.lt k e).1
            omega
          have HOFF := Lib.hid hoff
          clear hb9 hx9 hb89 ho8 hb8 hoff
          go_wp2_with (at_builtin; refine wpList_append_own _ rfl (.tmp 28) (.tmp 30) 23 rfl w.heap.size 26 i0 (.agg #[.int .i64 0, .int .i64 0, .int .i64 0, .slice none 0 0]) 4 48 Tryz.underlying23 hi0 hz0 hz1 hz2 rfl (by decide) _ _ _ rfl (HR9.out.row.alloc _) ⟨w9.heap.size, 0, none⟩ 1 1 [.int .i64 C.f, .int .i64 C.t, .int .i64 (C.n : Int), .slice a8 C.d.length c8] rfl rfl (news_alloc w9 [.int .i64 C.f, .int .i64 C.t, .int .i64 (C.n : Int), .slice a8 C.d.length c8] 26) (by simp [Value.oneCell']) (by simp; unfold maxLen; omega) (by simp; omega) (by simp; omega) ?_; intro v4 w4 hown4 hgrow4 _; have HO4 := Lib.hid hown4; have HG4 := Lib.hid hgrow4; clear hown4 hgrow4)
          go_roundw
          case rel =>
            have hgr := grown_alloc HG4.out
            refine ⟨m + 1, us ++ [.slice a8 C.d.length c8], by omega, by rw [show ((120 * (m + 1) : Nat) : Int) = 120 * (m : Int) + 120 by push_cast; omega], ?_, ?_⟩
            · rw [HCM.out]
              exact HR9.out.snoc (own_low HO8.out hs) HOFF.out HO4.out hgr
            · exact HB9.out.grown hgr (by omega) (fun k hk => (HR9.out.row.lt k hk).1)
          case measure => simp [intOf]; omega
      · have gi : decide (120 * (m : Int) < (l.length : Int)) = false := decide_eq_false (by omega)
        obtain rfl : m = (l.length + 119) / 120 := by omega
        have HCE := Lib.hid (Gz.cut_eq HG.out)
        have HRE := Lib.hid (HCE.out ▸ HR.out)
        clear HR
        go_wp2_with fail
        go_ret2
        exact ⟨_, us, by rw [HE0.out]; rfl, by rw [if_pos HE0.out]; exact HRE.out, HB.out⟩
  · have ge : (fitE l != 0) = true := by simpa using hE
    have HE0 := Lib.hid hE
    clear hE
    go_wp2_with fail
    go_ret2
    exact ⟨.slice none 0 0, [], rfl, by rw [if_neg HE0.out]; exact CRow.nil _ _, drewN_b w nf⟩
end Go.Proofs.YtepjpdhmjchakaaGreatDoor

/- The program's Encode of any list. Condition: the library's table of trailing noughts (TabW). -/
namespace Go.Proofs.YtepjpdhmjchakaaGreatDoor
open Go.RowKit
set_option linter.unusedVariables false

theorem fitE_far {l : List Gz.Smp} {s : Gz.Smp} (hs : s ∈ l) (h : Far s) : fitE l = 2 := by unfold fitE; rw [if_pos ⟨s, hs, h⟩]
theorem fitE_ub {l : List Gz.Smp} (hf : ∀ s ∈ l, ¬ Far s) (h : Ub l l.length) : fitE l = 100 := by
  unfold fitE
  rw [if_neg (fun ⟨s, hs, h1⟩ => hf s hs h1), if_pos h]
theorem fitE_ok {l : List Gz.Smp} (hf : ∀ s ∈ l, ¬ Far s) (h : ¬ Ub l l.length) : fitE l = 0 := by
  unfold fitE
  rw [if_neg (fun ⟨s, hs, h1⟩ => hf s hs h1), if_neg h]

set_option maxHeartbeats 4000000 in
set_option maxRecDepth 100000 in
theorem encode_bad (w : World) (ao : Option Addr) (cap : Nat) (l : List Gz.Smp) (h : Sms w.heap.size w ao cap l) (hE : fitE l ≠ 0) (hn : l.length ≤ 2000) :
    Calls Tryz.prog 6 #[.slice ao l.length cap] w fun e w' => e = .returned (.tuple #[.slice none 0 0, .int .u16 (fitE l)]) ∧ Below w.heap.size w w' := by
  have H := Lib.hid h
  have HBAD := Lib.hid hE
  clear h hE
  go_enter Tryz.func6, Tryz.ntmps6
  go_wp2
  go_loopw [4, 13] (fun o i wr => ∃ (k : Nat) (O : Int), k ≤ l.length ∧ i = .int .i64 k ∧ o = .int .u16 O ∧ (∀ s ∈ l.take k, ¬ Far s) ∧ ((O = 0 ∧ ¬ Ub l k) ∨ (O = 100 ∧ Ub l k)) ∧ Below w.heap.size w wr) (fun _ i _ => l.length - (intOf i).toNat)
  case atStart => exact ⟨0, 0, Nat.zero_le _, rfl, rfl, by simp, .inl ⟨rfl, fun ⟨i, a, b, h, _⟩ => by omega⟩, Below.refl _ _⟩
  case round =>
    obtain ⟨k, O, hk, rfl, rfl, hfar, hO, hbel⟩ := hrel
    have HB := Lib.hid hbel
    have HFAR := Lib.hid hfar
    have HO := Lib.hid hO
    have hsz := hbel.size
    have hll := H.out.len
    have HW := Lib.hid (H.out.below hbel (Nat.le_refl _))
    clear hbel hfar hO
    by_cases h1 : k < l.length
    · obtain ⟨b, off, rfl, hbl, hcell⟩ := HW.out.cells (by intro e; subst e; simp at h1)
      have hc1 := (hcell k h1).c0
      have hd1 := (hcell k h1).c1
      have i1 : (0 : Int) ≤ (k : Int) ∧ (k : Int) < (l.length : Int) := by omega
      have HHC := Lib.hid hcell
      obtain ⟨s, hs⟩ : ∃ s, l[k] = s := ⟨_, rfl⟩
      rw [hs] at hc1 hd1
      have HX := Lib.hid (show l[k]? = some s by rw [List.getElem?_eq_getElem h1, hs])
      have HSM := Lib.hid (show s ∈ l from hs ▸ List.getElem_mem h1)
      have HTK := Lib.hid (show l.take (k + 1) = l.take k ++ [s] by rw [List.take_succ_eq_append_getElem h1, hs])
      clear hcell hs
      by_cases hF : -Gz.far ≤ s.t ∧ s.t ≤ Gz.far
      · have HE := Lib.hid (show decide (-Gz.far ≤ s.t ∧ s.t ≤ Gz.far) = true from decide_eq_true hF)
        have HFN := Lib.hid (show ∀ x ∈ l.take (k + 1), ¬ Far x from fun x hx => by
          rw [HTK.out, List.mem_append] at hx
          rcases hx with hx | hx
          · exact HFAR.out x hx
          · simp at hx; subst hx; unfold Far; omega)
        clear hF
        by_cases h0 : k = 0
        · subst h0
          rw [Nat.zero_mul, Nat.add_zero] at hc1 hd1
          have HON := Lib.hid (show (O = 0 ∧ ¬ Ub l (0 + 1)) ∨ (O = 100 ∧ Ub l (0 + 1)) from by
            rcases HO.out with ⟨q1, _⟩ | ⟨_, ⟨i, a, b, q1, _⟩⟩
            · exact .inl ⟨q1, fun ⟨i, a, b, q, _⟩ => by omega⟩
            · omega)
          go_wp2_with (go_at_call 21; refine (within_any _ s.t).mono ?_; rintro e wz ⟨rfl, hw⟩; rw [HE.out]; subst hw)
          go_quiet (fail)
          go_wp2
          exact ⟨⟨1, O, by omega, rfl, rfl, HFN.out, HON.out, ((HB.out.alloc hsz _).trans ((drewN_b _ _).mono (by simp; omega)))⟩, by simp [intOf]; omega⟩
        · obtain ⟨j, rfl⟩ : ∃ j, k = j + 1 := ⟨k - 1, by omega⟩
          have hj : j < l.length := by omega
          have hc2 := (HHC.out j hj).c0
          obtain ⟨s0, hs0⟩ : ∃ s0, l[j] = s0 := ⟨_, rfl⟩
          rw [hs0] at hc2
          have HY := Lib.hid (show l[j]? = some s0 by rw [List.getElem?_eq_getElem hj, hs0])
          have gp : decide (0 < ((j + 1 : Nat) : Int)) = true := decide_eq_true (by omega)
          have e2 : IntKind.i64.wrap (j : Int) = (j : Int) := by rw [IntKind.wrap_i64]; omega
          have i2 : (0 : Int) ≤ (j : Int) ∧ (j : Int) < (l.length : Int) := by omega
          clear hs0
          by_cases hle : s.t ≤ s0.t
          · have gt : decide (s.t ≤ s0.t) = true := decide_eq_true hle
            have HON := Lib.hid (show Ub l (j + 1 + 1) from ⟨j, s0, s, by omega, HY.out, HX.out, hle⟩)
            clear hle
            go_wp2_with (go_at_call 21; refine (within_any _ s.t).mono ?_; rintro e wz ⟨rfl, hw⟩; rw [HE.out]; subst hw)
            have hc3 : (wr.alloc (.cells #[.int .i64 s.t, .int .u64 (s.v : Int)] 79)).cell? ⟨b, off + j * 2, none⟩ = some (.int .i64 s0.t) := (Below.cell ((Below.refl wr.heap.size wr).alloc (Nat.le_refl _) _) (by show b < _; omega)).trans hc2
            go_quiet (fail)
            go_wp2
            exact ⟨⟨j + 1 + 1, 100, by omega, by push_cast; rfl, rfl, HFN.out, .inr ⟨rfl, HON.out⟩, ((HB.out.alloc hsz _).trans ((drewN_b _ _).mono (by simp; omega)))⟩, by simp [intOf]; omega⟩
          · have gt : decide (s.t ≤ s0.t) = false := decide_eq_false hle
            have HON := Lib.hid (show (O = 0 ∧ ¬ Ub l (j + 1 + 1)) ∨ (O = 100 ∧ Ub l (j + 1 + 1)) from by
              rcases HO.out with ⟨q1, q2⟩ | ⟨q1, ⟨i, a, b, q2, q3⟩⟩
              · exact .inl ⟨q1, ub_no HX.out HY.out hle q2⟩
              · exact .inr ⟨q1, ⟨i, a, b, by omega, q3⟩⟩)
            clear hle
            go_wp2_with (go_at_call 21; refine (within_any _ s.t).mono ?_; rintro e wz ⟨rfl, hw⟩; rw [HE.out]; subst hw)
            have hc3 : (wr.alloc (.cells #[.int .i64 s.t, .int .u64 (s.v : Int)] 79)).cell? ⟨b, off + j * 2, none⟩ = some (.int .i64 s0.t) := (Below.cell ((Below.refl wr.heap.size wr).alloc (Nat.le_refl _) _) (by show b < _; omega)).trans hc2
            go_quiet (fail)
            go_wp2
            exact ⟨⟨j + 1 + 1, O, by omega, by push_cast; rfl, rfl, HFN.out, HON.out, ((HB.out.alloc hsz _).trans ((drewN_b _ _).mono (by simp; omega)))⟩, by simp [intOf]; omega⟩
      · have HE := Lib.hid (show decide (-Gz.far ≤ s.t ∧ s.t ≤ Gz.far) = false from decide_eq_false hF)
        have HE2 := Lib.hid (fitE_far HSM.out (show Far s by unfold Far; omega))
        clear hF
        go_wp2_with (go_at_call 21; refine (within_any _ s.t).mono ?_; rintro e wz ⟨rfl, hw⟩; rw [HE.out]; subst hw)
        go_ret2
        exact ⟨by rw [HE2.out]; rfl, HB.out.alloc hsz _⟩
    · obtain rfl : k = l.length := by omega
      rw [List.take_length] at HFAR
      rcases HO.out with ⟨rfl, hnu⟩ | ⟨rfl, hu⟩
      · exact absurd (fitE_ok HFAR.out hnu) HBAD.out
      · have HE2 := Lib.hid (fitE_ub HFAR.out hu)
        clear hu
        go_wp2
        go_ret2
        exact ⟨by rw [HE2.out]; rfl, HB.out⟩

theorem gencode_any (w : World) (ao : Option Addr) (cap : Nat) (l : List Gz.Smp) (h : Sms w.heap.size w ao cap l) (hn : l.length ≤ 2000) (hT : TabW w) :
    Calls Tryz.prog 6 #[.slice ao l.length cap] w fun e w' => EncPost w l e w' := by
  by_cases hE : fitE l = 0
  · refine (encode_any w ao cap l h ((fitE_good (fun s hs => (h.fits s hs).2)).1 hE) hn hT).mono ?_
    rintro e w' ⟨v, us, rfl, hr, hb⟩
    exact ⟨v, us, by rw [hE], by rw [if_pos hE]; exact hr, hb⟩
  · refine (encode_bad w ao cap l h hE hn).mono ?_
    rintro e w' ⟨rfl, hb⟩
    exact ⟨.slice none 0 0, [], rfl, by rw [if_neg hE]; exact CRow.nil _ _, hb⟩
end Go.Proofs.YtepjpdhmjchakaaGreatDoor
