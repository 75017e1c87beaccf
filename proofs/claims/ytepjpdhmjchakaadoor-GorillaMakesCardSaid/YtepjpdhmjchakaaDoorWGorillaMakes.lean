/- The walk of GorillaMakes. Conditions: the library's table of trailing noughts (TabW), the document's list of buckets (BkAt). -/
import Derived.Test.YtepjpdhmjchakaaDoorRzMk
import Derived.Test.YtepjpdhmjchakaaDoorSameCh
import Derived.Test.YtepjpdhmjchakaaDoorGzKn
namespace Go.Proofs.YtepjpdhmjchakaaDoor.gorillaMakes
open Go.RowKit Go.Proofs.YtepjpdhmjchakaaDoor
set_option linter.unusedVariables false

theorem sl_alloc {w : World} {u : Value} {d : List UInt8} {o : Obj} (h : Sl 0 w.heap.size f8 w u d) : Sl 0 (w.alloc o).heap.size f8 (w.alloc o) u d :=
  (h.below ((Below.refl w.heap.size w).alloc (Nat.le_refl _) o) (Nat.le_refl _)).mono (Nat.le_refl _) (by simp)
/-- One chunk against one like it. -/
theorem sameOne {w : World} {q1 q2 : Nat} {F T : Int} {N : Nat} {u1 u2 : Value} {d : List UInt8} (h1 : w.heap[q1]? = some (.cells #[.int .i64 F, .int .i64 T, .int .i64 (N : Int), u1] 73 (0, 0)))
    (h2 : w.heap[q2]? = some (.cells #[.int .i64 F, .int .i64 T, .int .i64 (N : Int), u2] 73 (0, 0))) (s1 : Sl 0 w.heap.size f8 w u1 d) (s2 : Sl 0 w.heap.size f8 w u2 d) :
    Calls Tryd.prog 13 #[.slice (some ⟨q1, 0, none⟩) 1 1, .slice (some ⟨q2, 0, none⟩) 1 1] w fun e w' => e = .returned (.bool true) ∧ ∃ n, w' = w.drewN n := by
  have key : ∀ q u, w.heap[q]? = some (.cells #[.int .i64 F, .int .i64 T, .int .i64 (N : Int), u] 73 (0, 0)) → Sl 0 w.heap.size f8 w u d → Chs w.heap.size w (some ⟨q, 0, none⟩) 1 [⟨F, T, N, d⟩] := fun q u hq hs => by
    obtain ⟨k0, k1, k2, k3, _⟩ := box4 hq
    refine ⟨by show 1 ≤ maxLen; decide, fun _ => ⟨q, 0, rfl, heap_lt hq, fun j hj => ?_⟩⟩
    have hj0 : j = 0 := by simp at hj; exact hj
    subst hj0
    exact ⟨k0, k1, k2, u, k3, hs⟩
  refine (sameCh_any w.heap.size w.heap.size w (some ⟨q1, 0, none⟩) (some ⟨q2, 0, none⟩) 1 1 [⟨F, T, N, d⟩] [⟨F, T, N, d⟩] (key q1 u1 h1 s1) (key q2 u2 h2 s2)).mono ?_
  rintro e w' ⟨b, rfl, hb, n, rfl⟩
  exact ⟨by rw [hb.2 rfl], n, rfl⟩

set_option maxHeartbeats 8000000 in
set_option maxRecDepth 100000 in
theorem walk (ao : Option Addr) (cap : Nat) (l : List Gz.Smp) (W : World) (h0 : Sms W.heap.size W ao cap l) (hT : TabW W) {b o c b0 o0 c0 b1 o1 c1 b2 o2 c2 : Nat} (hk : BkAt W.heap.size W b o c b0 o0 c0 b1 o1 c1 b2 o2 c2) :
    Calls Tryd.prog 3 #[.slice ao l.length cap] W fun e W' => e = .returned (.bool true) ∧ Below W.heap.size W W' := by
  have hlb : 1 < W.heap.size := block_lt_of_cell (hT 0 (by omega))
  by_cases hbig : 2000 < l.length
  · have gb : decide ((2000 : Int) < (l.length : Int)) = true := decide_eq_true (by omega)
    go_enter Tryd.func3, Tryd.ntmps3
    go_wp2
    go_ret
    exact ⟨rfl, Below.refl _ _⟩
  have gb : decide ((2000 : Int) < (l.length : Int)) = false := decide_eq_false (by omega)
  have H0 := Lib.hid h0
  have HT := Lib.hid hT
  have HK := Lib.hid hk
  clear h0 hT hk
  go_enter Tryd.func3, Tryd.ntmps3
  go_wp2_with fail
  refine (gnew_any W).mono ?_
  rintro e w1 ⟨rfl, ha1, hb1⟩
  have HA1 := Lib.hid ha1
  have HB1 := Lib.hid hb1
  clear ha1 hb1
  go_wp2_with fail
  refine Calls.mono (by exact gzKnown_any w1 (HT.out.below HB1.out hlb)) ?_
  rintro e w2 ⟨rfl, hb2⟩
  have HA2 := Lib.hid (HA1.out.below hb2)
  have HB2 := Lib.hid (HB1.out.trans (hb2.mono HB1.out.size))
  clear hb2 HA1
  go_wp2_with fail
  have hs2 := HB2.out.size
  have hb4 : Below w2.heap.size w2 ((w2.alloc (.cells #[.slice none 0 0] 28)).alloc (.cells (bookCells (.slice none 0 0)) 63)) := ((Below.refl _ _).alloc (Nat.le_refl _) _).alloc (by simp) _
  have HM0 := Lib.hid (show Mk ((w2.alloc (.cells #[.slice none 0 0] 28)).alloc (.cells (bookCells (.slice none 0 0)) 63)) W.heap.size (W.heap.size + 1) W.heap.size w2.heap.size (w2.heap.size + 1) none (.slice none 0 0) (.slice none 0 0) [] (fun _ => 0) [] [] from
    ⟨HA2.out.below hb4, ⟨(Below.heap_alloc _ _ _ (by simp)).trans (heap_alloc_new w2 _), World.ownsRow_nil _ _ _ _⟩, ⟨by
      have := heap_alloc_new (w2.alloc (.cells #[.slice none 0 0] 28)) (.cells (bookCells (.slice none 0 0)) 63)
      rw [show (w2.alloc (.cells #[.slice none 0 0] 28)).heap.size = w2.heap.size + 1 by simp] at this
      exact this, Bk.nil _ _ _ _ _, fun i j u v h => by simp at h⟩, ⟨by omega, by omega, by omega, by omega⟩, (fun k hk => by cases hk), (fun u hu => by cases hu), (fun _ => Nat.zero_le _)⟩)
  have HB4 := Lib.hid (HB2.out.trans (hb4.mono HB2.out.size))
  clear hb4
  generalize W.heap.size + 1 = P at *
  go_loopw [6] (fun i wr => ∃ (k : Nat) (r : Option Nat) (v vb : Value) (vs : List Value) (ln : Nat → Nat) (l' : List Gz.Smp), k ≤ l.length ∧ i = .int .i64 k ∧ Mk wr W.heap.size P W.heap.size w2.heap.size (w2.heap.size + 1) r v vb vs ln l' l' ∧ Gz.Fine l' ∧ vs.length ≤ k ∧ Below W.heap.size W wr) (fun i _ => l.length - (intOf i).toNat)
  case atStart => exact ⟨0, none, _, _, [], _, [], Nat.zero_le _, rfl, HM0.out, ⟨fun s hs => (by cases hs), fun i a b h => (by simp at h), by simp⟩, Nat.le_refl _, HB4.out⟩
  case round =>
    obtain ⟨k, r, v, vb, vs, ln, l', hk, rfl, hm, hf, hvs, hb⟩ := hrel
    clear HM0 HB4 HA2
    have HM := Lib.hid hm
    have HB := Lib.hid hb
    have HF := Lib.hid hf
    have hsz := hb.size
    clear hm hb hf
    by_cases h1 : k < l.length
    · obtain ⟨bs, off, rfl, hbs, hcell⟩ := (H0.out.below HB.out (Nat.le_refl _)).cells (by intro e; subst e; simp at h1)
      have hc0 := (hcell k h1).c0
      have hc1 := (hcell k h1).c1
      have hv := (hcell k h1).v
      have i1 : (0 : Int) ≤ (k : Int) ∧ (k : Int) < (l.length : Int) := by omega
      clear hcell
      generalize l[k] = s at *
      obtain ⟨hnx, hfx⟩ := app_next' HF.out hv
      have HNX := Lib.hid hnx
      have HF2 := Lib.hid hfx
      clear hnx hfx
      generalize hE : ((Gz.Ap.all l').app s).2 = E at *
      have HE := Lib.hid hE
      clear hE
      go_wp2_with fail
      go_region_held3 (fun w' => w'.cell? ⟨bs, off + k * 2, none⟩ = some (.int .i64 s.t) ∧ w'.cell? ⟨bs, off + k * 2 + 1, none⟩ = some (.int .u64 (s.v : Int))) (first | assumption | exact ⟨by assumption, by assumption⟩ | exact ⟨hc0, hc1⟩) (first
        | (go_at_call 9; refine Calls.mono (by exact app_any (HM.out.below (drew_b wr)).ap (Gz.all_ok HF.out) s hv ((HT.out.below HB.out hlb).below (drew_b wr) (by omega)) (by have := HM.out.lo.1; omega) (by omega) (fun e => by have := HM.out.lor 1 e; omega)) ?_; rintro e w3 ⟨rfl, r1, ha3, hg3, hn3⟩; rw [HNX.out] at ha3; rw [HE.out]; have hb3 := hg3.below (C := W.heap.size) hsz HM.out.lo.1 (Nat.le_refl _) HM.out.lor; have f0 := (hb3.cell (show bs < W.heap.size from hbs)).trans hc0; have f1 := (hb3.cell (show bs < W.heap.size from hbs)).trans hc1; have HM1 := Lib.hid ((HM.out.below (drew_b wr)).app hg3 ha3 hn3); have HB1 := Lib.hid ((HB.out.trans ((drew_b wr).mono hsz)).trans hb3); clear ha3 hg3 hn3 hb3)
        | (go_at_call 10; refine Calls.mono (by exact xapp_any HM1.out.xa HF.out HB1.out.size s) ?_; rintro e w4 ⟨rfl, v2, hx4, hg4, hn4⟩; rw [HE.out]; have hb4 := hg4.below (B := W.heap.size) HB1.out.size HM1.out.lo.2.2.1 (fun q hq => (HM1.out.xa.row.lt q hq).1); have e0 := (hb4.cell (show bs < W.heap.size from hbs)).trans f0; have e1 := (hb4.cell (show bs < W.heap.size from hbs)).trans f1; have HM2 := Lib.hid (HM1.out.xapp hg4 hx4); have HB2 := Lib.hid (HB1.out.trans hb4); clear hx4 hg4 hn4 hb4))
      go_wp2_with fail
      · refine Calls.mono (by exact chunkA_any HM2.out.ap HF2.out) ?_
        rintro e w5 ⟨u3, rfl, hu3, hb5⟩
        unfold chV
        obtain ⟨a3, c3, rfl⟩ := own_slice hu3
        have hok := Gz.all_ok HF2.out
        have hDl : (Bt.pack (Gz.Ap.all (xnext l' s)).L).length ≤ 24000 := by
          have h1 := hok.len
          have h2 := hok.n
          have h3 := Bt.pack_len (Gz.Ap.all (xnext l' s)).L
          omega
        clear hok
        have hw45 := hb5.size
        have HU := Lib.hid hu3
        have HB5 := Lib.hid hb5
        clear hu3 hb5
        have HXA := Lib.hid (fun (w' : World) (v' : Value) (hx : Xa w' w2.heap.size W.heap.size v' (xnext l' s)) (hw : Below W.heap.size W w') => xchunkA_any hx HF2.out hw.size (HK.out.below hw))
        generalize (Gz.Ap.all (xnext l' s)).first = F at *
        generalize (Gz.Ap.all (xnext l' s)).t = T at *
        generalize (xnext l' s).length = N at *
        generalize Bt.pack (Gz.Ap.all (xnext l' s)).L = D at *
        go_wp2_with fail
        have hba : Below w4.heap.size w4 (w5.alloc (.cells #[.int .i64 F, .int .i64 T, .int .i64 (N : Int), .slice a3 D.length c3] 73)) := HB5.out.alloc hw45 _
        have hua : (w5.alloc (.cells #[.int .i64 F, .int .i64 T, .int .i64 (N : Int), .slice a3 D.length c3] 73)).ownsRow w4.heap.size 5 1 (.slice a3 D.length c3) D.length (D.map f8) := HU.out.alloc _
        have hqa : (w5.alloc (.cells #[.int .i64 F, .int .i64 T, .int .i64 (N : Int), .slice a3 D.length c3] 73)).heap[w5.heap.size]? = some (.cells #[.int .i64 F, .int .i64 T, .int .i64 (N : Int), .slice a3 D.length c3] 73 (0, 0)) := heap_alloc_new w5 _
        have hza : (w5.alloc (.cells #[.int .i64 F, .int .i64 T, .int .i64 (N : Int), .slice a3 D.length c3] 73)).heap.size = w5.heap.size + 1 := by simp
        generalize w5.alloc (.cells #[.int .i64 F, .int .i64 T, .int .i64 (N : Int), .slice a3 D.length c3] 73) = wa at *
        generalize hU3 : Value.slice a3 D.length c3 = u3 at *
        have HMa := Lib.hid (HM2.out.below hba)
        have hlt4 := HM2.out.lts
        have hsW := HB2.out.size
        have hfrom : ∀ q, u3.ownBlock = some q → w4.heap.size ≤ q := own_from hua
        refine Calls.mono (by exact bookBytes_any wa W.heap.size (w2.heap.size + 1) vb vs ln u3 D.length (D.map f8) HMa.out.bk (own_low hua hsW) (fun x hx q hq e => by have := hlt4.2.2.2.2 x hx q hq; have := hfrom q e; omega) (by omega) (Nat.le_trans hsW hba.size)) ?_
        rintro e w6 ⟨rfl, vb6, hbk6, hg6, hn6⟩
        have HM6 := Lib.hid (HMa.out.put hg6 hbk6 (fun q hq e => by have := HM2.out.ap.lts.2.2 q e; have := hfrom q hq; omega) (fun j => by split; omega; exact HM2.out.small j))
        obtain ⟨-, -, -, -, -, t6, t7, -⟩ := HMa.out.types
        have hu6 : w6.ownsRow w4.heap.size 5 1 u3 D.length (D.map f8) := own_of_same hua (fun q hq => hg6.block q (hua.lt q hq).2 ((Ty.own hua hq).ne t6 (by decide)) (fun e => ((Ty.own hua hq).ne (t7 q e.symm) (by decide)) rfl))
        have hq6 : w6.heap[w5.heap.size]? = some (.cells #[.int .i64 F, .int .i64 T, .int .i64 (N : Int), u3] 73 (0, 0)) := (hg6.block _ (by omega) ((show Ty wa w5.heap.size 73 from ⟨_, _, hqa⟩).ne t6 (by decide)) (fun e => ((show Ty wa w5.heap.size 73 from ⟨_, _, hqa⟩).ne (t7 _ e.symm) (by decide)) rfl)).trans hqa
        have HB6 := Lib.hid ((HB2.out.trans (hba.mono hsW)).trans (hg6.below (B := W.heap.size) (Nat.le_trans hsW hba.size) HMa.out.lo.2.2.2 (fun q hq => (HMa.out.bk.bytes.row.lt q hq).1)))
        have hql : w5.heap.size < w6.heap.size := heap_lt hq6
        have HS := Lib.hid (fun (w' : World) (hw : Below w6.heap.size w6 w') => show w'.cell? ⟨w5.heap.size, 0, none⟩ = some (.int .i64 F) ∧ w'.cell? ⟨w5.heap.size, 1, none⟩ = some (.int .i64 T) ∧ w'.cell? ⟨w5.heap.size, 2, none⟩ = some (.int .i64 (N : Int)) ∧ w'.cell? ⟨w5.heap.size, 3, none⟩ = some u3 from by
          obtain ⟨k0, k1, k2, k3, _⟩ := box4 ((hw.block _ hql).trans hq6)
          exact ⟨k0, k1, k2, k3⟩)
        have HU3 := Lib.hid (fun (w' : World) (hw : Below w6.heap.size w6 w') => show Sl 0 w'.heap.size f8 w' u3 D from ((Sl.owns hu6 (by omega)).below hw (Nat.le_refl _)).mono (Nat.zero_le _) hw.size)
        have HXC := Lib.hid (fun (w' : World) (hw : Below w6.heap.size w6 w') => (HXA.out w' v2 (HM6.out.xa.below hw) (HB6.out.trans (hw.mono HB6.out.size))).mono (R' := fun e w'' => ∃ u7, e = .returned (chV F T N u7) ∧ Sl 0 w''.heap.size f8 w'' u7 D ∧ Below w'.heap.size w' w'' ∧ Below w6.heap.size w6 w'') (fun e w'' ⟨u7, h1, h2, h3⟩ => ⟨u7, h1, (Sl.owns h2 (by omega)).mono (Nat.zero_le _) (Nat.le_refl _), h3, hw.trans (h3.mono hw.size)⟩))
        generalize hQQ : w5.heap.size = Q at *
        clear hbk6 hg6 hn6 t6 t7 hu6 hq6 HXA hqa hua hba hza
        go_wp2_with fail
        refine wp_region_held_drew (S := fun w' => w'.cell? ⟨Q, 0, none⟩ = some (.int .i64 F) ∧ w'.cell? ⟨Q, 1, none⟩ = some (.int .i64 T) ∧ w'.cell? ⟨Q, 2, none⟩ = some (.int .i64 (N : Int)) ∧ w'.cell? ⟨Q, 3, none⟩ = some u3) (by kernel_rfl) (HS.out _ (drew_b w6)) (fun hHeld => ?_)
        refine wpAnyH_take (i := 0) (oi := ⟨some 57, _, _, _, _, _⟩) (v := ?v1) rfl (by kernel_rfl) (by kernel_rfl) (by kernel_rfl) (fun _ _ _ h => h) (Or.inl ⟨by rfl, ?hy1⟩) (by assumption) ?_
        case hy1 => (intro w' hSw; (try dsimp only at hSw); go_simp <;> with_reducible rfl)
        try simp only [Act.put, List.setIfInBounds_toArray, List.set_cons_zero, List.set_cons_succ]
        refine wpAnyH_take (i := 2) (oi := ⟨some 59, _, _, _, _, _⟩) (v := ?v2) rfl (by kernel_rfl) (by kernel_rfl) (by kernel_rfl) (fun _ _ _ h => h) (Or.inl ⟨by rfl, ?hy2⟩) (by assumption) ?_
        case hy2 => (intro w' hSw; (try dsimp only at hSw); go_simp <;> with_reducible rfl)
        try simp only [Act.put, List.setIfInBounds_toArray, List.set_cons_zero, List.set_cons_succ]
        refine wpAnyH_ready (rs := [1, 3]) (by kernel_rfl) (by simp) ?_
        refine AllReadyH.cons (o := ⟨some 58, _, _, _, _, _⟩) rfl (fun K hK => ?_) (AllReadyH.cons (o := ⟨some 60, _, _, _, _, _⟩) rfl (fun K hK => ?_) AllReadyH.nil)
        · go_simp
          refine hK.out _ _ (HS.out _ ((drew_b w6).alloc (show w6.heap.size ≤ w6.drew.heap.size from Nat.le_refl _) _)) (fun hHeld => ?_)
          clear hK K
          try simp only [Act.put, List.setIfInBounds_toArray, List.set_cons_zero, List.set_cons_succ]
          refine wpAnyH_ready (rs := [3]) (by kernel_rfl) (by simp) ?_
          refine AllReadyH.cons (o := ⟨some 60, _, _, _, _, _⟩) rfl (fun K hK => ?_) AllReadyH.nil
          go_simp
          refine Calls.mono (by exact HXC.out (w6.drew.alloc (.cells #[.int .i64 F, .int .i64 T, .int .i64 (N : Int), u3] 73)) (((drew_b w6).alloc (show w6.heap.size ≤ w6.drew.heap.size from Nat.le_refl _) _))) ?_
          rintro e w7 ⟨u7, rfl, hu7, hb7, hs7⟩
          unfold chV
          (try go_wp2_with fail)
          have hq1 : w7.heap[w6.heap.size]? = some (.cells #[.int .i64 F, .int .i64 T, .int .i64 (N : Int), u3] 73 (0, 0)) := (hb7.block _ (by simp)).trans (heap_alloc_new w6.drew _)
          have hsz : w6.heap.size < w7.heap.size := by have := hb7.size; simp at this; omega
          refine hK.out _ _ (HS.out _ hs7) (fun hHeld => ?_)
          clear hK K
          try simp only [Act.put, List.setIfInBounds_toArray, List.set_cons_zero, List.set_cons_succ]
          refine wpAnyH_ready (rs := [4]) (by kernel_rfl) (by simp) ?_
          refine AllReadyH.cons (o := ⟨some 61, _, _, _, _, _⟩) rfl (fun K hK => ?_) AllReadyH.nil
          go_simp
          refine hK.out _ _ (HS.out _ (hs7.alloc hs7.size _)) (fun hHeld => ?_)
          clear hK K
          try simp only [Act.put, List.setIfInBounds_toArray, List.set_cons_zero, List.set_cons_succ]
          have hu7 := sl_alloc (o := (.cells #[.int .i64 F, .int .i64 T, .int .i64 (N : Int), u7] 73)) hu7
          refine wpAnyH_ready (rs := [5]) (by kernel_rfl) (by simp) ?_
          refine AllReadyH.cons (o := ⟨some 62, _, _, _, _, _⟩) rfl (fun K hK => ?_) AllReadyH.nil
          go_simp
          refine (sameOne (w := w7.alloc (.cells #[.int .i64 F, .int .i64 T, .int .i64 (N : Int), u7] 73)) (q1 := w6.heap.size) (q2 := w7.heap.size) (F := F) (T := T) (N := N) (u1 := u3) (u2 := u7) (d := D) ((Below.heap_alloc _ _ _ hsz).trans hq1) (heap_alloc_new w7 _) (HU3.out _ (hs7.alloc hs7.size _)) (hu7)).mono ?_
          rintro e w9 ⟨rfl, n9, rfl⟩
          (try go_wp2_with fail)
          have hb9 := ((hs7.alloc hs7.size _)).trans ((drewN_b (w7.alloc (.cells #[.int .i64 F, .int .i64 T, .int .i64 (N : Int), u7] 73)) n9).mono ((hs7.alloc hs7.size _)).size)
          refine hK.out _ _ (HS.out _ hb9) (fun hHeld => ?_)
          clear hK K
          try simp only [Act.put, List.setIfInBounds_toArray, List.set_cons_zero, List.set_cons_succ]
          refine wpAnyH_take (i := 6) (oi := ⟨some 63, _, _, _, _, _⟩) (v := ?v3) rfl (by kernel_rfl) (by kernel_rfl) (by kernel_rfl) (fun _ _ _ h => h) (Or.inl ⟨by rfl, ?hy3⟩) (by assumption) ?_
          case hy3 => (intro w' hSw; (try dsimp only at hSw); go_simp <;> with_reducible rfl)
          try simp only [Act.put, List.setIfInBounds_toArray, List.set_cons_zero, List.set_cons_succ]
          refine wpAnyH_done (by kernel_rfl) ?_ _
          have HM9 := Lib.hid (HM6.out.below hb9)
          have HB9 := Lib.hid (HB6.out.trans (hb9.mono HB6.out.size))
          go_wp2
          refine ⟨⟨k + 1, r1, v2, vb6, vs ++ [u3], _, xnext l' s, by omega, by push_cast; rfl, HM9.out, HF2.out, by simp; omega, HB9.out⟩, by simp [intOf]; omega⟩
        · go_simp
          refine Calls.mono (by exact HXC.out (w6.drew) ((drew_b w6))) ?_
          rintro e w7 ⟨u7, rfl, hu7, hb7, hs7⟩
          unfold chV
          (try go_wp2_with fail)
          refine hK.out _ _ (HS.out _ hs7) (fun hHeld => ?_)
          clear hK K
          try simp only [Act.put, List.setIfInBounds_toArray, List.set_cons_zero, List.set_cons_succ]
          refine wpAnyH_ready (rs := [1, 4]) (by kernel_rfl) (by simp) ?_
          refine AllReadyH.cons (o := ⟨some 58, _, _, _, _, _⟩) rfl (fun K hK => ?_) (AllReadyH.cons (o := ⟨some 61, _, _, _, _, _⟩) rfl (fun K hK => ?_) AllReadyH.nil)
          · go_simp
            refine hK.out _ _ (HS.out _ (hs7.alloc hs7.size _)) (fun hHeld => ?_)
            clear hK K
            try simp only [Act.put, List.setIfInBounds_toArray, List.set_cons_zero, List.set_cons_succ]
            refine wpAnyH_ready (rs := [4]) (by kernel_rfl) (by simp) ?_
            refine AllReadyH.cons (o := ⟨some 61, _, _, _, _, _⟩) rfl (fun K hK => ?_) AllReadyH.nil
            go_simp
            refine hK.out _ _ (HS.out _ ((hs7.alloc hs7.size (.cells #[.int .i64 F, .int .i64 T, .int .i64 (N : Int), u3] 73)).alloc (by have := hs7.size; simp; omega) (.cells #[.int .i64 F, .int .i64 T, .int .i64 (N : Int), u7] 73))) (fun hHeld => ?_)
            clear hK K
            try simp only [Act.put, List.setIfInBounds_toArray, List.set_cons_zero, List.set_cons_succ]
            have hu7 := sl_alloc (o := (.cells #[.int .i64 F, .int .i64 T, .int .i64 (N : Int), u7] 73)) (sl_alloc (o := (.cells #[.int .i64 F, .int .i64 T, .int .i64 (N : Int), u3] 73)) hu7)
            refine wpAnyH_ready (rs := [5]) (by kernel_rfl) (by simp) ?_
            refine AllReadyH.cons (o := ⟨some 62, _, _, _, _, _⟩) rfl (fun K hK => ?_) AllReadyH.nil
            go_simp
            refine (sameOne (w := (w7.alloc (.cells #[.int .i64 F, .int .i64 T, .int .i64 (N : Int), u3] 73)).alloc (.cells #[.int .i64 F, .int .i64 T, .int .i64 (N : Int), u7] 73)) (q1 := w7.heap.size) (q2 := w7.heap.size + 1) (F := F) (T := T) (N := N) (u1 := u3) (u2 := u7) (d := D) ((Below.heap_alloc _ _ _ (by simp)).trans (heap_alloc_new w7 _)) (by have := heap_alloc_new (w7.alloc (.cells #[.int .i64 F, .int .i64 T, .int .i64 (N : Int), u3] 73)) (.cells #[.int .i64 F, .int .i64 T, .int .i64 (N : Int), u7] 73); rw [show (w7.alloc (.cells #[.int .i64 F, .int .i64 T, .int .i64 (N : Int), u3] 73)).heap.size = w7.heap.size + 1 by simp] at this; exact this) (HU3.out _ ((hs7.alloc hs7.size (.cells #[.int .i64 F, .int .i64 T, .int .i64 (N : Int), u3] 73)).alloc (by have := hs7.size; simp; omega) (.cells #[.int .i64 F, .int .i64 T, .int .i64 (N : Int), u7] 73))) (hu7)).mono ?_
            rintro e w9 ⟨rfl, n9, rfl⟩
            (try go_wp2_with fail)
            have hb9 := (((hs7.alloc hs7.size (.cells #[.int .i64 F, .int .i64 T, .int .i64 (N : Int), u3] 73)).alloc (by have := hs7.size; simp; omega) (.cells #[.int .i64 F, .int .i64 T, .int .i64 (N : Int), u7] 73))).trans ((drewN_b ((w7.alloc (.cells #[.int .i64 F, .int .i64 T, .int .i64 (N : Int), u3] 73)).alloc (.cells #[.int .i64 F, .int .i64 T, .int .i64 (N : Int), u7] 73)) n9).mono (((hs7.alloc hs7.size (.cells #[.int .i64 F, .int .i64 T, .int .i64 (N : Int), u3] 73)).alloc (by have := hs7.size; simp; omega) (.cells #[.int .i64 F, .int .i64 T, .int .i64 (N : Int), u7] 73))).size)
            refine hK.out _ _ (HS.out _ hb9) (fun hHeld => ?_)
            clear hK K
            try simp only [Act.put, List.setIfInBounds_toArray, List.set_cons_zero, List.set_cons_succ]
            refine wpAnyH_take (i := 6) (oi := ⟨some 63, _, _, _, _, _⟩) (v := ?v4) rfl (by kernel_rfl) (by kernel_rfl) (by kernel_rfl) (fun _ _ _ h => h) (Or.inl ⟨by rfl, ?hy4⟩) (by assumption) ?_
            case hy4 => (intro w' hSw; (try dsimp only at hSw); go_simp <;> with_reducible rfl)
            try simp only [Act.put, List.setIfInBounds_toArray, List.set_cons_zero, List.set_cons_succ]
            refine wpAnyH_done (by kernel_rfl) ?_ _
            have HM9 := Lib.hid (HM6.out.below hb9)
            have HB9 := Lib.hid (HB6.out.trans (hb9.mono HB6.out.size))
            go_wp2
            refine ⟨⟨k + 1, r1, v2, vb6, vs ++ [u3], _, xnext l' s, by omega, by push_cast; rfl, HM9.out, HF2.out, by simp; omega, HB9.out⟩, by simp [intOf]; omega⟩
          · go_simp
            refine hK.out _ _ (HS.out _ (hs7.alloc hs7.size _)) (fun hHeld => ?_)
            clear hK K
            try simp only [Act.put, List.setIfInBounds_toArray, List.set_cons_zero, List.set_cons_succ]
            refine wpAnyH_ready (rs := [1]) (by kernel_rfl) (by simp) ?_
            refine AllReadyH.cons (o := ⟨some 58, _, _, _, _, _⟩) rfl (fun K hK => ?_) AllReadyH.nil
            go_simp
            refine hK.out _ _ (HS.out _ ((hs7.alloc hs7.size (.cells #[.int .i64 F, .int .i64 T, .int .i64 (N : Int), u7] 73)).alloc (by have := hs7.size; simp; omega) (.cells #[.int .i64 F, .int .i64 T, .int .i64 (N : Int), u3] 73))) (fun hHeld => ?_)
            clear hK K
            try simp only [Act.put, List.setIfInBounds_toArray, List.set_cons_zero, List.set_cons_succ]
            have hu7 := sl_alloc (o := (.cells #[.int .i64 F, .int .i64 T, .int .i64 (N : Int), u3] 73)) (sl_alloc (o := (.cells #[.int .i64 F, .int .i64 T, .int .i64 (N : Int), u7] 73)) hu7)
            refine wpAnyH_ready (rs := [5]) (by kernel_rfl) (by simp) ?_
            refine AllReadyH.cons (o := ⟨some 62, _, _, _, _, _⟩) rfl (fun K hK => ?_) AllReadyH.nil
            go_simp
            refine (sameOne (w := (w7.alloc (.cells #[.int .i64 F, .int .i64 T, .int .i64 (N : Int), u7] 73)).alloc (.cells #[.int .i64 F, .int .i64 T, .int .i64 (N : Int), u3] 73)) (q1 := w7.heap.size + 1) (q2 := w7.heap.size) (F := F) (T := T) (N := N) (u1 := u3) (u2 := u7) (d := D) (by have := heap_alloc_new (w7.alloc (.cells #[.int .i64 F, .int .i64 T, .int .i64 (N : Int), u7] 73)) (.cells #[.int .i64 F, .int .i64 T, .int .i64 (N : Int), u3] 73); rw [show (w7.alloc (.cells #[.int .i64 F, .int .i64 T, .int .i64 (N : Int), u7] 73)).heap.size = w7.heap.size + 1 by simp] at this; exact this) ((Below.heap_alloc _ _ _ (by simp)).trans (heap_alloc_new w7 _)) (HU3.out _ ((hs7.alloc hs7.size (.cells #[.int .i64 F, .int .i64 T, .int .i64 (N : Int), u7] 73)).alloc (by have := hs7.size; simp; omega) (.cells #[.int .i64 F, .int .i64 T, .int .i64 (N : Int), u3] 73))) (hu7)).mono ?_
            rintro e w9 ⟨rfl, n9, rfl⟩
            (try go_wp2_with fail)
            have hb9 := (((hs7.alloc hs7.size (.cells #[.int .i64 F, .int .i64 T, .int .i64 (N : Int), u7] 73)).alloc (by have := hs7.size; simp; omega) (.cells #[.int .i64 F, .int .i64 T, .int .i64 (N : Int), u3] 73))).trans ((drewN_b ((w7.alloc (.cells #[.int .i64 F, .int .i64 T, .int .i64 (N : Int), u7] 73)).alloc (.cells #[.int .i64 F, .int .i64 T, .int .i64 (N : Int), u3] 73)) n9).mono (((hs7.alloc hs7.size (.cells #[.int .i64 F, .int .i64 T, .int .i64 (N : Int), u7] 73)).alloc (by have := hs7.size; simp; omega) (.cells #[.int .i64 F, .int .i64 T, .int .i64 (N : Int), u3] 73))).size)
            refine hK.out _ _ (HS.out _ hb9) (fun hHeld => ?_)
            clear hK K
            try simp only [Act.put, List.setIfInBounds_toArray, List.set_cons_zero, List.set_cons_succ]
            refine wpAnyH_take (i := 6) (oi := ⟨some 63, _, _, _, _, _⟩) (v := ?v5) rfl (by kernel_rfl) (by kernel_rfl) (by kernel_rfl) (fun _ _ _ h => h) (Or.inl ⟨by rfl, ?hy5⟩) (by assumption) ?_
            case hy5 => (intro w' hSw; (try dsimp only at hSw); go_simp <;> with_reducible rfl)
            try simp only [Act.put, List.setIfInBounds_toArray, List.set_cons_zero, List.set_cons_succ]
            refine wpAnyH_done (by kernel_rfl) ?_ _
            have HM9 := Lib.hid (HM6.out.below hb9)
            have HB9 := Lib.hid (HB6.out.trans (hb9.mono HB6.out.size))
            go_wp2
            refine ⟨⟨k + 1, r1, v2, vb6, vs ++ [u3], _, xnext l' s, by omega, by push_cast; rfl, HM9.out, HF2.out, by simp; omega, HB9.out⟩, by simp [intOf]; omega⟩
      · refine Calls.mono (by exact chunkA_any HM2.out.ap HF2.out) ?_
        rintro e w5 ⟨u3, rfl, hu3, hb5⟩
        unfold chV
        obtain ⟨a3, c3, rfl⟩ := own_slice hu3
        have hok := Gz.all_ok HF2.out
        have hDl : (Bt.pack (Gz.Ap.all (xnext l' s)).L).length ≤ 24000 := by
          have h1 := hok.len
          have h2 := hok.n
          have h3 := Bt.pack_len (Gz.Ap.all (xnext l' s)).L
          omega
        clear hok
        have hw45 := hb5.size
        have HU := Lib.hid hu3
        have HB5 := Lib.hid hb5
        clear hu3 hb5
        have HXA := Lib.hid (fun (w' : World) (v' : Value) (hx : Xa w' w2.heap.size W.heap.size v' (xnext l' s)) (hw : Below W.heap.size W w') => xchunkA_any hx HF2.out hw.size (HK.out.below hw))
        generalize (Gz.Ap.all (xnext l' s)).first = F at *
        generalize (Gz.Ap.all (xnext l' s)).t = T at *
        generalize (xnext l' s).length = N at *
        generalize Bt.pack (Gz.Ap.all (xnext l' s)).L = D at *
        go_wp2_with fail
        have hba : Below w4.heap.size w4 (w5.alloc (.cells #[.int .i64 F, .int .i64 T, .int .i64 (N : Int), .slice a3 D.length c3] 73)) := HB5.out.alloc hw45 _
        have hua : (w5.alloc (.cells #[.int .i64 F, .int .i64 T, .int .i64 (N : Int), .slice a3 D.length c3] 73)).ownsRow w4.heap.size 5 1 (.slice a3 D.length c3) D.length (D.map f8) := HU.out.alloc _
        have hqa : (w5.alloc (.cells #[.int .i64 F, .int .i64 T, .int .i64 (N : Int), .slice a3 D.length c3] 73)).heap[w5.heap.size]? = some (.cells #[.int .i64 F, .int .i64 T, .int .i64 (N : Int), .slice a3 D.length c3] 73 (0, 0)) := heap_alloc_new w5 _
        have hza : (w5.alloc (.cells #[.int .i64 F, .int .i64 T, .int .i64 (N : Int), .slice a3 D.length c3] 73)).heap.size = w5.heap.size + 1 := by simp
        generalize w5.alloc (.cells #[.int .i64 F, .int .i64 T, .int .i64 (N : Int), .slice a3 D.length c3] 73) = wa at *
        generalize hU3 : Value.slice a3 D.length c3 = u3 at *
        have HMa := Lib.hid (HM2.out.below hba)
        have hlt4 := HM2.out.lts
        have hsW := HB2.out.size
        have hfrom : ∀ q, u3.ownBlock = some q → w4.heap.size ≤ q := own_from hua
        refine Calls.mono (by exact bookBytes_any wa W.heap.size (w2.heap.size + 1) vb vs ln u3 D.length (D.map f8) HMa.out.bk (own_low hua hsW) (fun x hx q hq e => by have := hlt4.2.2.2.2 x hx q hq; have := hfrom q e; omega) (by omega) (Nat.le_trans hsW hba.size)) ?_
        rintro e w6 ⟨rfl, vb6, hbk6, hg6, hn6⟩
        have HM6 := Lib.hid (HMa.out.put hg6 hbk6 (fun q hq e => by have := HM2.out.ap.lts.2.2 q e; have := hfrom q hq; omega) (fun j => by split; omega; exact HM2.out.small j))
        obtain ⟨-, -, -, -, -, t6, t7, -⟩ := HMa.out.types
        have hu6 : w6.ownsRow w4.heap.size 5 1 u3 D.length (D.map f8) := own_of_same hua (fun q hq => hg6.block q (hua.lt q hq).2 ((Ty.own hua hq).ne t6 (by decide)) (fun e => ((Ty.own hua hq).ne (t7 q e.symm) (by decide)) rfl))
        have hq6 : w6.heap[w5.heap.size]? = some (.cells #[.int .i64 F, .int .i64 T, .int .i64 (N : Int), u3] 73 (0, 0)) := (hg6.block _ (by omega) ((show Ty wa w5.heap.size 73 from ⟨_, _, hqa⟩).ne t6 (by decide)) (fun e => ((show Ty wa w5.heap.size 73 from ⟨_, _, hqa⟩).ne (t7 _ e.symm) (by decide)) rfl)).trans hqa
        have HB6 := Lib.hid ((HB2.out.trans (hba.mono hsW)).trans (hg6.below (B := W.heap.size) (Nat.le_trans hsW hba.size) HMa.out.lo.2.2.2 (fun q hq => (HMa.out.bk.bytes.row.lt q hq).1)))
        have hql : w5.heap.size < w6.heap.size := heap_lt hq6
        have HS := Lib.hid (fun (w' : World) (hw : Below w6.heap.size w6 w') => show w'.cell? ⟨w5.heap.size, 0, none⟩ = some (.int .i64 F) ∧ w'.cell? ⟨w5.heap.size, 1, none⟩ = some (.int .i64 T) ∧ w'.cell? ⟨w5.heap.size, 2, none⟩ = some (.int .i64 (N : Int)) ∧ w'.cell? ⟨w5.heap.size, 3, none⟩ = some u3 from by
          obtain ⟨k0, k1, k2, k3, _⟩ := box4 ((hw.block _ hql).trans hq6)
          exact ⟨k0, k1, k2, k3⟩)
        have HU3 := Lib.hid (fun (w' : World) (hw : Below w6.heap.size w6 w') => show Sl 0 w'.heap.size f8 w' u3 D from ((Sl.owns hu6 (by omega)).below hw (Nat.le_refl _)).mono (Nat.zero_le _) hw.size)
        have HXC := Lib.hid (fun (w' : World) (hw : Below w6.heap.size w6 w') => (HXA.out w' v2 (HM6.out.xa.below hw) (HB6.out.trans (hw.mono HB6.out.size))).mono (R' := fun e w'' => ∃ u7, e = .returned (chV F T N u7) ∧ Sl 0 w''.heap.size f8 w'' u7 D ∧ Below w'.heap.size w' w'' ∧ Below w6.heap.size w6 w'') (fun e w'' ⟨u7, h1, h2, h3⟩ => ⟨u7, h1, (Sl.owns h2 (by omega)).mono (Nat.zero_le _) (Nat.le_refl _), h3, hw.trans (h3.mono hw.size)⟩))
        generalize hQQ : w5.heap.size = Q at *
        clear hbk6 hg6 hn6 t6 t7 hu6 hq6 HXA hqa hua hba hza
        go_wp2_with fail
        refine wp_region_held_drew (S := fun w' => w'.cell? ⟨Q, 0, none⟩ = some (.int .i64 F) ∧ w'.cell? ⟨Q, 1, none⟩ = some (.int .i64 T) ∧ w'.cell? ⟨Q, 2, none⟩ = some (.int .i64 (N : Int)) ∧ w'.cell? ⟨Q, 3, none⟩ = some u3) (by kernel_rfl) (HS.out _ (drew_b w6)) (fun hHeld => ?_)
        refine wpAnyH_take (i := 0) (oi := ⟨some 57, _, _, _, _, _⟩) (v := ?v6) rfl (by kernel_rfl) (by kernel_rfl) (by kernel_rfl) (fun _ _ _ h => h) (Or.inl ⟨by rfl, ?hy6⟩) (by assumption) ?_
        case hy6 => (intro w' hSw; (try dsimp only at hSw); go_simp <;> with_reducible rfl)
        try simp only [Act.put, List.setIfInBounds_toArray, List.set_cons_zero, List.set_cons_succ]
        refine wpAnyH_take (i := 2) (oi := ⟨some 59, _, _, _, _, _⟩) (v := ?v7) rfl (by kernel_rfl) (by kernel_rfl) (by kernel_rfl) (fun _ _ _ h => h) (Or.inl ⟨by rfl, ?hy7⟩) (by assumption) ?_
        case hy7 => (intro w' hSw; (try dsimp only at hSw); go_simp <;> with_reducible rfl)
        try simp only [Act.put, List.setIfInBounds_toArray, List.set_cons_zero, List.set_cons_succ]
        refine wpAnyH_ready (rs := [1, 3]) (by kernel_rfl) (by simp) ?_
        refine AllReadyH.cons (o := ⟨some 58, _, _, _, _, _⟩) rfl (fun K hK => ?_) (AllReadyH.cons (o := ⟨some 60, _, _, _, _, _⟩) rfl (fun K hK => ?_) AllReadyH.nil)
        · go_simp
          refine hK.out _ _ (HS.out _ ((drew_b w6).alloc (show w6.heap.size ≤ w6.drew.heap.size from Nat.le_refl _) _)) (fun hHeld => ?_)
          clear hK K
          try simp only [Act.put, List.setIfInBounds_toArray, List.set_cons_zero, List.set_cons_succ]
          refine wpAnyH_ready (rs := [3]) (by kernel_rfl) (by simp) ?_
          refine AllReadyH.cons (o := ⟨some 60, _, _, _, _, _⟩) rfl (fun K hK => ?_) AllReadyH.nil
          go_simp
          refine Calls.mono (by exact HXC.out (w6.drew.alloc (.cells #[.int .i64 F, .int .i64 T, .int .i64 (N : Int), u3] 73)) (((drew_b w6).alloc (show w6.heap.size ≤ w6.drew.heap.size from Nat.le_refl _) _))) ?_
          rintro e w7 ⟨u7, rfl, hu7, hb7, hs7⟩
          unfold chV
          (try go_wp2_with fail)
          have hq1 : w7.heap[w6.heap.size]? = some (.cells #[.int .i64 F, .int .i64 T, .int .i64 (N : Int), u3] 73 (0, 0)) := (hb7.block _ (by simp)).trans (heap_alloc_new w6.drew _)
          have hsz : w6.heap.size < w7.heap.size := by have := hb7.size; simp at this; omega
          refine hK.out _ _ (HS.out _ hs7) (fun hHeld => ?_)
          clear hK K
          try simp only [Act.put, List.setIfInBounds_toArray, List.set_cons_zero, List.set_cons_succ]
          refine wpAnyH_ready (rs := [4]) (by kernel_rfl) (by simp) ?_
          refine AllReadyH.cons (o := ⟨some 61, _, _, _, _, _⟩) rfl (fun K hK => ?_) AllReadyH.nil
          go_simp
          refine hK.out _ _ (HS.out _ (hs7.alloc hs7.size _)) (fun hHeld => ?_)
          clear hK K
          try simp only [Act.put, List.setIfInBounds_toArray, List.set_cons_zero, List.set_cons_succ]
          have hu7 := sl_alloc (o := (.cells #[.int .i64 F, .int .i64 T, .int .i64 (N : Int), u7] 73)) hu7
          refine wpAnyH_ready (rs := [5]) (by kernel_rfl) (by simp) ?_
          refine AllReadyH.cons (o := ⟨some 62, _, _, _, _, _⟩) rfl (fun K hK => ?_) AllReadyH.nil
          go_simp
          refine (sameOne (w := w7.alloc (.cells #[.int .i64 F, .int .i64 T, .int .i64 (N : Int), u7] 73)) (q1 := w6.heap.size) (q2 := w7.heap.size) (F := F) (T := T) (N := N) (u1 := u3) (u2 := u7) (d := D) ((Below.heap_alloc _ _ _ hsz).trans hq1) (heap_alloc_new w7 _) (HU3.out _ (hs7.alloc hs7.size _)) (hu7)).mono ?_
          rintro e w9 ⟨rfl, n9, rfl⟩
          (try go_wp2_with fail)
          have hb9 := ((hs7.alloc hs7.size _)).trans ((drewN_b (w7.alloc (.cells #[.int .i64 F, .int .i64 T, .int .i64 (N : Int), u7] 73)) n9).mono ((hs7.alloc hs7.size _)).size)
          refine hK.out _ _ (HS.out _ hb9) (fun hHeld => ?_)
          clear hK K
          try simp only [Act.put, List.setIfInBounds_toArray, List.set_cons_zero, List.set_cons_succ]
          refine wpAnyH_take (i := 6) (oi := ⟨some 63, _, _, _, _, _⟩) (v := ?v8) rfl (by kernel_rfl) (by kernel_rfl) (by kernel_rfl) (fun _ _ _ h => h) (Or.inl ⟨by rfl, ?hy8⟩) (by assumption) ?_
          case hy8 => (intro w' hSw; (try dsimp only at hSw); go_simp <;> with_reducible rfl)
          try simp only [Act.put, List.setIfInBounds_toArray, List.set_cons_zero, List.set_cons_succ]
          refine wpAnyH_done (by kernel_rfl) ?_ _
          have HM9 := Lib.hid (HM6.out.below hb9)
          have HB9 := Lib.hid (HB6.out.trans (hb9.mono HB6.out.size))
          go_wp2
          refine ⟨⟨k + 1, r1, v2, vb6, vs ++ [u3], _, xnext l' s, by omega, by push_cast; rfl, HM9.out, HF2.out, by simp; omega, HB9.out⟩, by simp [intOf]; omega⟩
        · go_simp
          refine Calls.mono (by exact HXC.out (w6.drew) ((drew_b w6))) ?_
          rintro e w7 ⟨u7, rfl, hu7, hb7, hs7⟩
          unfold chV
          (try go_wp2_with fail)
          refine hK.out _ _ (HS.out _ hs7) (fun hHeld => ?_)
          clear hK K
          try simp only [Act.put, List.setIfInBounds_toArray, List.set_cons_zero, List.set_cons_succ]
          refine wpAnyH_ready (rs := [1, 4]) (by kernel_rfl) (by simp) ?_
          refine AllReadyH.cons (o := ⟨some 58, _, _, _, _, _⟩) rfl (fun K hK => ?_) (AllReadyH.cons (o := ⟨some 61, _, _, _, _, _⟩) rfl (fun K hK => ?_) AllReadyH.nil)
          · go_simp
            refine hK.out _ _ (HS.out _ (hs7.alloc hs7.size _)) (fun hHeld => ?_)
            clear hK K
            try simp only [Act.put, List.setIfInBounds_toArray, List.set_cons_zero, List.set_cons_succ]
            refine wpAnyH_ready (rs := [4]) (by kernel_rfl) (by simp) ?_
            refine AllReadyH.cons (o := ⟨some 61, _, _, _, _, _⟩) rfl (fun K hK => ?_) AllReadyH.nil
            go_simp
            refine hK.out _ _ (HS.out _ ((hs7.alloc hs7.size (.cells #[.int .i64 F, .int .i64 T, .int .i64 (N : Int), u3] 73)).alloc (by have := hs7.size; simp; omega) (.cells #[.int .i64 F, .int .i64 T, .int .i64 (N : Int), u7] 73))) (fun hHeld => ?_)
            clear hK K
            try simp only [Act.put, List.setIfInBounds_toArray, List.set_cons_zero, List.set_cons_succ]
            have hu7 := sl_alloc (o := (.cells #[.int .i64 F, .int .i64 T, .int .i64 (N : Int), u7] 73)) (sl_alloc (o := (.cells #[.int .i64 F, .int .i64 T, .int .i64 (N : Int), u3] 73)) hu7)
            refine wpAnyH_ready (rs := [5]) (by kernel_rfl) (by simp) ?_
            refine AllReadyH.cons (o := ⟨some 62, _, _, _, _, _⟩) rfl (fun K hK => ?_) AllReadyH.nil
            go_simp
            refine (sameOne (w := (w7.alloc (.cells #[.int .i64 F, .int .i64 T, .int .i64 (N : Int), u3] 73)).alloc (.cells #[.int .i64 F, .int .i64 T, .int .i64 (N : Int), u7] 73)) (q1 := w7.heap.size) (q2 := w7.heap.size + 1) (F := F) (T := T) (N := N) (u1 := u3) (u2 := u7) (d := D) ((Below.heap_alloc _ _ _ (by simp)).trans (heap_alloc_new w7 _)) (by have := heap_alloc_new (w7.alloc (.cells #[.int .i64 F, .int .i64 T, .int .i64 (N : Int), u3] 73)) (.cells #[.int .i64 F, .int .i64 T, .int .i64 (N : Int), u7] 73); rw [show (w7.alloc (.cells #[.int .i64 F, .int .i64 T, .int .i64 (N : Int), u3] 73)).heap.size = w7.heap.size + 1 by simp] at this; exact this) (HU3.out _ ((hs7.alloc hs7.size (.cells #[.int .i64 F, .int .i64 T, .int .i64 (N : Int), u3] 73)).alloc (by have := hs7.size; simp; omega) (.cells #[.int .i64 F, .int .i64 T, .int .i64 (N : Int), u7] 73))) (hu7)).mono ?_
            rintro e w9 ⟨rfl, n9, rfl⟩
            (try go_wp2_with fail)
            have hb9 := (((hs7.alloc hs7.size (.cells #[.int .i64 F, .int .i64 T, .int .i64 (N : Int), u3] 73)).alloc (by have := hs7.size; simp; omega) (.cells #[.int .i64 F, .int .i64 T, .int .i64 (N : Int), u7] 73))).trans ((drewN_b ((w7.alloc (.cells #[.int .i64 F, .int .i64 T, .int .i64 (N : Int), u3] 73)).alloc (.cells #[.int .i64 F, .int .i64 T, .int .i64 (N : Int), u7] 73)) n9).mono (((hs7.alloc hs7.size (.cells #[.int .i64 F, .int .i64 T, .int .i64 (N : Int), u3] 73)).alloc (by have := hs7.size; simp; omega) (.cells #[.int .i64 F, .int .i64 T, .int .i64 (N : Int), u7] 73))).size)
            refine hK.out _ _ (HS.out _ hb9) (fun hHeld => ?_)
            clear hK K
            try simp only [Act.put, List.setIfInBounds_toArray, List.set_cons_zero, List.set_cons_succ]
            refine wpAnyH_take (i := 6) (oi := ⟨some 63, _, _, _, _, _⟩) (v := ?v9) rfl (by kernel_rfl) (by kernel_rfl) (by kernel_rfl) (fun _ _ _ h => h) (Or.inl ⟨by rfl, ?hy9⟩) (by assumption) ?_
            case hy9 => (intro w' hSw; (try dsimp only at hSw); go_simp <;> with_reducible rfl)
            try simp only [Act.put, List.setIfInBounds_toArray, List.set_cons_zero, List.set_cons_succ]
            refine wpAnyH_done (by kernel_rfl) ?_ _
            have HM9 := Lib.hid (HM6.out.below hb9)
            have HB9 := Lib.hid (HB6.out.trans (hb9.mono HB6.out.size))
            go_wp2
            refine ⟨⟨k + 1, r1, v2, vb6, vs ++ [u3], _, xnext l' s, by omega, by push_cast; rfl, HM9.out, HF2.out, by simp; omega, HB9.out⟩, by simp [intOf]; omega⟩
          · go_simp
            refine hK.out _ _ (HS.out _ (hs7.alloc hs7.size _)) (fun hHeld => ?_)
            clear hK K
            try simp only [Act.put, List.setIfInBounds_toArray, List.set_cons_zero, List.set_cons_succ]
            refine wpAnyH_ready (rs := [1]) (by kernel_rfl) (by simp) ?_
            refine AllReadyH.cons (o := ⟨some 58, _, _, _, _, _⟩) rfl (fun K hK => ?_) AllReadyH.nil
            go_simp
            refine hK.out _ _ (HS.out _ ((hs7.alloc hs7.size (.cells #[.int .i64 F, .int .i64 T, .int .i64 (N : Int), u7] 73)).alloc (by have := hs7.size; simp; omega) (.cells #[.int .i64 F, .int .i64 T, .int .i64 (N : Int), u3] 73))) (fun hHeld => ?_)
            clear hK K
            try simp only [Act.put, List.setIfInBounds_toArray, List.set_cons_zero, List.set_cons_succ]
            have hu7 := sl_alloc (o := (.cells #[.int .i64 F, .int .i64 T, .int .i64 (N : Int), u3] 73)) (sl_alloc (o := (.cells #[.int .i64 F, .int .i64 T, .int .i64 (N : Int), u7] 73)) hu7)
            refine wpAnyH_ready (rs := [5]) (by kernel_rfl) (by simp) ?_
            refine AllReadyH.cons (o := ⟨some 62, _, _, _, _, _⟩) rfl (fun K hK => ?_) AllReadyH.nil
            go_simp
            refine (sameOne (w := (w7.alloc (.cells #[.int .i64 F, .int .i64 T, .int .i64 (N : Int), u7] 73)).alloc (.cells #[.int .i64 F, .int .i64 T, .int .i64 (N : Int), u3] 73)) (q1 := w7.heap.size + 1) (q2 := w7.heap.size) (F := F) (T := T) (N := N) (u1 := u3) (u2 := u7) (d := D) (by have := heap_alloc_new (w7.alloc (.cells #[.int .i64 F, .int .i64 T, .int .i64 (N : Int), u7] 73)) (.cells #[.int .i64 F, .int .i64 T, .int .i64 (N : Int), u3] 73); rw [show (w7.alloc (.cells #[.int .i64 F, .int .i64 T, .int .i64 (N : Int), u7] 73)).heap.size = w7.heap.size + 1 by simp] at this; exact this) ((Below.heap_alloc _ _ _ (by simp)).trans (heap_alloc_new w7 _)) (HU3.out _ ((hs7.alloc hs7.size (.cells #[.int .i64 F, .int .i64 T, .int .i64 (N : Int), u7] 73)).alloc (by have := hs7.size; simp; omega) (.cells #[.int .i64 F, .int .i64 T, .int .i64 (N : Int), u3] 73))) (hu7)).mono ?_
            rintro e w9 ⟨rfl, n9, rfl⟩
            (try go_wp2_with fail)
            have hb9 := (((hs7.alloc hs7.size (.cells #[.int .i64 F, .int .i64 T, .int .i64 (N : Int), u7] 73)).alloc (by have := hs7.size; simp; omega) (.cells #[.int .i64 F, .int .i64 T, .int .i64 (N : Int), u3] 73))).trans ((drewN_b ((w7.alloc (.cells #[.int .i64 F, .int .i64 T, .int .i64 (N : Int), u7] 73)).alloc (.cells #[.int .i64 F, .int .i64 T, .int .i64 (N : Int), u3] 73)) n9).mono (((hs7.alloc hs7.size (.cells #[.int .i64 F, .int .i64 T, .int .i64 (N : Int), u7] 73)).alloc (by have := hs7.size; simp; omega) (.cells #[.int .i64 F, .int .i64 T, .int .i64 (N : Int), u3] 73))).size)
            refine hK.out _ _ (HS.out _ hb9) (fun hHeld => ?_)
            clear hK K
            try simp only [Act.put, List.setIfInBounds_toArray, List.set_cons_zero, List.set_cons_succ]
            refine wpAnyH_take (i := 6) (oi := ⟨some 63, _, _, _, _, _⟩) (v := ?v10) rfl (by kernel_rfl) (by kernel_rfl) (by kernel_rfl) (fun _ _ _ h => h) (Or.inl ⟨by rfl, ?hy10⟩) (by assumption) ?_
            case hy10 => (intro w' hSw; (try dsimp only at hSw); go_simp <;> with_reducible rfl)
            try simp only [Act.put, List.setIfInBounds_toArray, List.set_cons_zero, List.set_cons_succ]
            refine wpAnyH_done (by kernel_rfl) ?_ _
            have HM9 := Lib.hid (HM6.out.below hb9)
            have HB9 := Lib.hid (HB6.out.trans (hb9.mono HB6.out.size))
            go_wp2
            refine ⟨⟨k + 1, r1, v2, vb6, vs ++ [u3], _, xnext l' s, by omega, by push_cast; rfl, HM9.out, HF2.out, by simp; omega, HB9.out⟩, by simp [intOf]; omega⟩
      · exact ⟨⟨k + 1, r1, v2, vb, vs, ln, xnext l' s, by omega, by push_cast; rfl, HM2.out, HF2.out, by omega, HB2.out⟩, by simp [intOf]; omega⟩
    · have e : k = l.length := by omega
      subst e
      go_wp2_with fail
      refine Calls.mono (by exact own_any wr W.heap.size (w2.heap.size + 1) vb vs ln HM.out.bk HM.out.small (by omega) hsz) ?_
      rintro e w7 ⟨rfl, hb7⟩
      go_wp2_with fail
      go_ret
      exact ⟨rfl, HB.out.trans hb7⟩
end Go.Proofs.YtepjpdhmjchakaaDoor.gorillaMakes
