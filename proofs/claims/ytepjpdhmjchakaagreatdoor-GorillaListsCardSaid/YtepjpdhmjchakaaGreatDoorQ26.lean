import Derived.Test.YtepjpdhmjchakaaGreatDoorQ21
import Derived.Test.YtepjpdhmjchakaaGreatDoorQ16
import Derived.Test.YtepjpdhmjchakaaGreatDoorQ24
import Derived.Test.YtepjpdhmjchakaaGreatDoorQ23
import Derived.Test.YtepjpdhmjchakaaGreatDoorQ6
import Derived.Test.YtepjpdhmjchakaaGreatDoorQ25
/- The walk of GorillaLists. Conditions: the library's table of trailing noughts (TabW), the document's list of buckets (BkAt). -/
namespace Go.Proofs.YtepjpdhmjchakaaGreatDoor.gorillaLists
open Go.RowKit Go.Proofs.YtepjpdhmjchakaaGreatDoor
set_option linter.unusedVariables false

/-- How much the first k chunks weigh. -/
def tot (l : List Cki) (k : Nat) : Nat := ((l.take k).map fun c => c.d.length + 1).sum
theorem tot_succ {l : List Cki} {k : Nat} (h : k < l.length) : tot l (k + 1) = tot l k + (l[k].d.length + 1) := by
  unfold tot
  rw [List.take_succ_eq_append_getElem h, List.map_append, List.sum_append]
  simp
theorem tot_mono {l : List Cki} : ∀ {k j : Nat}, k ≤ j → j ≤ l.length → tot l k ≤ tot l j
  | k, 0, h, _ => by obtain rfl : k = 0 := by omega
                     exact Nat.le_refl _
  | k, j + 1, h, hj => by
    by_cases e : k = j + 1
    · subst e; exact Nat.le_refl _
    · have := tot_mono (l := l) (k := k) (j := j) (by omega) (by omega)
      rw [tot_succ (by omega)]
      omega
theorem tot_get {l : List Cki} {T : Nat} (h : tot l l.length ≤ T) : l.length ≤ T ∧ ∀ c ∈ l, c.d.length ≤ T := by
  constructor
  · have key : ∀ k, k ≤ l.length → k ≤ tot l k := by
      intro k
      induction k with
      | zero => intro _; exact Nat.zero_le _
      | succ k ih => intro hk; rw [tot_succ (by omega)]; have := ih (by omega); omega
    have := key l.length (Nat.le_refl _)
    omega
  · intro c hc
    obtain ⟨i, hi, rfl⟩ := List.getElem_of_mem hc
    have h1 := tot_mono (l := l) (k := i + 1) (j := l.length) (by omega) (Nat.le_refl _)
    rw [tot_succ hi] at h1
    omega
theorem dcd_len (l : List Cki) : (dcd l).1.length ≤ 120 * l.length := by
  unfold dcd
  split
  · exact Nat.zero_le _
  · split
    · exact Nat.zero_le _
    · induction l with
      | nil => simp
      | cons c l ih =>
        simp only [List.map_cons, List.flatten_cons, List.length_append, List.length_cons]
        have h1 : ((rdo c).getD []).length ≤ 120 := by
          cases hc : rdo c with
          | none => exact Nat.zero_le _
          | some ls => exact (rdo_some.1 hc).fine.len
        have h2 : ((l.map fun c => (rdo c).getD []).flatten).length ≤ 120 * l.length := by
          clear ih h1
          rename_i h3 h4
          clear h3 h4
          induction l with
          | nil => simp
          | cons c l ih =>
            simp only [List.map_cons, List.flatten_cons, List.length_append, List.length_cons]
            have h1 : ((rdo c).getD []).length ≤ 120 := by
              cases hc : rdo c with
              | none => exact Nat.zero_le _
              | some ls => exact (rdo_some.1 hc).fine.len
            omega
        omega
theorem dcd_fits (l : List Cki) : ∀ s ∈ (dcd l).1, (-9223372036854775808 ≤ s.t ∧ s.t ≤ 9223372036854775807) ∧ s.v < 18446744073709551616 := by
  unfold dcd
  split
  · intro s hs; simp at hs
  · split
    · intro s hs; simp at hs
    · intro s hs
      simp only [List.mem_flatten, List.mem_map] at hs
      obtain ⟨_, ⟨c, _, rfl⟩, hs⟩ := hs
      cases hc : rdo c with
      | none => rw [hc] at hs; simp at hs
      | some ls => rw [hc] at hs; exact (rdo_some.1 hc).fits s hs

theorem chs_mono {hi hi' : Nat} {w : World} {ao : Option Addr} {cap : Nat} {l : List Cki} (h : Chs hi w ao cap l) (hh : hi ≤ hi') : Chs hi' w ao cap l := by
  refine ⟨h.len, fun hne => ?_⟩
  obtain ⟨b, off, h1, h2, h3⟩ := h.cells hne
  refine ⟨b, off, h1, by omega, fun j hj => ?_⟩
  obtain ⟨d0, d1, d2, u, d3, hsl⟩ := h3 j hj
  exact ⟨d0, d1, d2, u, d3, hsl.mono (Nat.le_refl _) hh⟩
theorem cut_small2 {l : List Gz.Smp} (h : Gz.Good l) : ∀ c ∈ Gz.cut l, c.d.length ≤ 1099511627776 := by
  obtain ⟨P, _, hP, e⟩ := Gz.cut_pieces h
  rw [e]
  intro c hc
  obtain ⟨p, hp, rfl⟩ := List.mem_map.1 hc
  have hk := Gz.all_ok (hP p hp)
  have h1 := hk.len
  have h2 := hk.n
  have h3 := Bt.pack_len (Gz.Ap.all p).L
  show (Bt.pack (Gz.Ap.all p).L).length ≤ _
  omega
theorem bookG_below {w w' : World} {base B C : Nat} {vb : Value} {vs : List Value} {ln : Nat → Nat} {ss cs : Value} (h : BookG w base B vb vs ln ss cs) (hb : Below C w w') (hC : w.heap.size ≤ C) : BookG w' base B vb vs ln ss cs := by
  refine ⟨(hb.block B (Nat.lt_of_lt_of_le (heap_lt h.cell) hC)).trans h.cell, Bk.start (own_of_same h.bytes.row (fun k hk => hb.block k (Nat.lt_of_lt_of_le (h.bytes.row.lt k hk).2 hC))) (fun j u hu => ?_), h.apt⟩
  obtain ⟨zs, hz, _⟩ := h.bytes.rows j u hu
  exact ⟨zs, own_of_same hz (fun k hk => hb.block k (Nat.lt_of_lt_of_le (hz.lt k hk).2 hC))⟩
theorem own_below {w w' : World} {C base : Nat} {e : TypeId} {s : Nat} {v : Value} {n : Nat} {xs : List Value} (h : w.ownsRow base e s v n xs) (hb : Below C w w') (hC : w.heap.size ≤ C) : w'.ownsRow base e s v n xs := own_of_same h (fun k hk => hb.block k (Nat.lt_of_lt_of_le (h.lt k hk).2 hC))
theorem lc_keep {w w' : World} {base g : Nat} {us : List Value} {cs : List Cki} (h : LC w base g us cs) (hk : ∀ k, base ≤ k → k < w.heap.size → w'.heap[k]? = w.heap[k]?) : LC w' base g us cs := by
  refine ⟨(hk g h.lo (heap_lt h.blk)).trans h.blk, h.len, fun i u r hu hr => ?_, h.inc, h.lo⟩
  obtain ⟨gi, h1, h2, h3⟩ := h.each i u r hu hr
  exact ⟨gi, h1, (hk gi h3 (heap_lt h2)).trans h2, h3⟩
theorem lc_lt {w : World} {base g : Nat} {us : List Value} {cs : List Cki} (h : LC w base g us cs) : g < w.heap.size ∧ ∀ u ∈ us, ∀ k, u.ownBlock = some k → k < w.heap.size := by
  refine ⟨heap_lt h.blk, fun u hu k hk => ?_⟩
  obtain ⟨i, hi⟩ := List.getElem?_of_mem hu
  have hil : i < cs.length := by rw [← h.len]; exact (List.getElem?_eq_some_iff.1 hi).1
  obtain ⟨gi, e1, e2, _⟩ := h.each i u _ hi (List.getElem?_eq_getElem hil)
  subst e1
  have : gi = k := by injection hk
  subst this
  exact heap_lt e2
theorem lent_sms {w : World} {g : Nat} {l : List Gz.Smp} (hf : ∀ s ∈ l, (-9223372036854775808 ≤ s.t ∧ s.t ≤ 9223372036854775807) ∧ s.v < 18446744073709551616) (hn : l.length ≤ 1000000) (hg : w.heap[g]? = some (.cells (smCs l ++ [Value.int .i64 (-71), Value.int .u64 0, Value.int .i64 (-72), Value.int .u64 0]).toArray 79 (0, 0))) : Sms w.heap.size w (some ⟨g, 0, none⟩) (l.length + 2) l := by
  refine ⟨by unfold maxLen; omega, fun _ => ⟨g, 0, rfl, heap_lt hg, fun j hj => ?_⟩⟩
  obtain ⟨g0, g1⟩ := smCs_get hj
  rw [Nat.zero_add]
  have := hf l[j] (List.getElem_mem hj)
  exact ⟨by rw [cell_of_row _ _ _ _ _ _ hg, List.getElem?_toArray, List.getElem?_append_left (by rw [smCs_len]; omega)]; exact g0, by rw [cell_of_row _ _ _ _ _ _ hg, List.getElem?_toArray, List.getElem?_append_left (by rw [smCs_len]; omega)]; exact g1, this.1, this.2⟩

set_option maxHeartbeats 8000000 in
set_option maxRecDepth 100000 in
theorem walk (ao ac : Option Addr) (cap cc : Nat) (l : List Gz.Smp) (m : List Cki) (W : World) (h0 : Sms W.heap.size W ao cap l) (hnn : ao = none → cap = 0) (hle : l.length ≤ cap) (h1 : Chs W.heap.size W ac cc m) (hT : TabW W) {b o c' b0 o0 c0 b1 o1 c1 b2 o2 c2 : Nat} (hk : BkAt W.heap.size W b o c' b0 o0 c0 b1 o1 c1 b2 o2 c2) :
    Calls Tryz.prog 3 #[.slice ao l.length cap, .slice ac m.length cc] W fun e W' => e = .returned (.bool true) ∧ Below W.heap.size W W' := by
  have hlb : 1 < W.heap.size := block_lt_of_cell (hT 0 (by omega))
  have hll := Nat.le_trans h0.len (show maxLen ≤ 9223372036854775807 by decide)
  have hml := Nat.le_trans h1.len (show maxLen ≤ 9223372036854775807 by decide)
  have H0 := Lib.hid h0
  have H1 := Lib.hid h1
  have HT := Lib.hid hT
  have HK := Lib.hid hk
  have HNN := Lib.hid hnn
  clear h0 h1 hT hk hnn
  go_enter Tryz.func3, Tryz.ntmps3
  go_wp2_with fail
  go_loopw [5, 6] (fun t i wr => ∃ k T : Nat, k ≤ m.length ∧ i = .int .i64 k ∧ t = .int .i64 T ∧ T = l.length + tot m k ∧ T ≤ 9223372036854775807 ∧ wr = W) (fun _ i _ => m.length - (intOf i).toNat)
  case atStart => exact ⟨0, l.length, Nat.zero_le _, rfl, rfl, rfl, hll, rfl⟩
  case round =>
    obtain ⟨k, T, hk, rfl, rfl, hTT, hT9, hw⟩ := hrel
    subst hw
    have HTT := Lib.hid hTT
    clear hTT
    by_cases hlt : k < m.length
    · have gk : decide ((k : Int) < (m.length : Int)) = true := decide_eq_true (by omega)
      by_cases hT1 : T ≤ 100000
      · have gT : decide ((T : Int) ≤ 100000) = true := decide_eq_true (by omega)
        obtain ⟨bb, off, hao, hbb, hcell⟩ := H1.out.cells (by intro e; subst e; simp at hlt)
        subst hao
        obtain ⟨x, hx⟩ : ∃ x, m[k] = x := ⟨_, rfl⟩
        obtain ⟨d0, d1, d2, u, d3, hsl⟩ := hcell k hlt
        rw [hx] at d0 d1 d2 hsl
        have hxl := hsl.len
        obtain ⟨au, cu, rfl, _⟩ := hsl
        have HTS := Lib.hid (show tot m (k + 1) = tot m k + (x.d.length + 1) by rw [tot_succ hlt, hx])
        have i1 : (0 : Int) ≤ (k : Int) ∧ (k : Int) < (m.length : Int) := by omega
        clear hcell hx
        go_wp2_with fail
        go_roundw
        case rel => exact ⟨k + 1, T + (x.d.length + 1), by omega, by push_cast; rfl, by push_cast; rfl, by rw [HTS.out, HTT.out]; omega, by omega, trivial⟩
        case measure => simp [intOf]; omega
      · have gT : decide ((T : Int) ≤ 100000) = false := decide_eq_false (by omega)
        have gT2 : decide (100000 < (T : Int)) = true := decide_eq_true (by omega)
        go_wp2_with fail
        go_ret
        exact ⟨rfl, Below.refl _ _⟩
    · obtain rfl : k = m.length := by omega
      have gk : decide ((m.length : Int) < (m.length : Int)) = false := decide_eq_false (by omega)
      by_cases hbig : 100000 < T
      · have gT2 : decide (100000 < (T : Int)) = true := decide_eq_true (by omega)
        go_wp2_with fail
        go_ret
        exact ⟨rfl, Below.refl _ _⟩
      · have gT2 : decide (100000 < (T : Int)) = false := decide_eq_false (by omega)
        by_cases hL : 2000 < l.length
        · have gL : decide (2000 < (l.length : Int)) = true := decide_eq_true (by omega)
          go_wp2_with fail
          go_ret
          exact ⟨rfl, Below.refl _ _⟩
        · have gL : decide (2000 < (l.length : Int)) = false := decide_eq_false (by omega)
          obtain ⟨hmn, hmd⟩ := tot_get (l := m) (T := 100000) (by have := HTT.out; omega)
          have HMD := Lib.hid hmd
          clear hmd HTT
          go_wp2_with fail
          refine Calls.mono (by exact lentSm_any wr ao cap l H0.out HNN.out (by omega)) ?_
          rintro e w1 ⟨rfl, hblk1, hb1⟩
          have hs1 := hb1.size
          have hg1 : wr.heap.size < w1.heap.size := heap_lt hblk1
          have HBL := Lib.hid hblk1
          have HB1 := Lib.hid hb1
          clear hblk1 hb1
          go_wp2_with fail
          refine Calls.mono (by exact lentCh_any w1 ac cc m (chs_mono (H1.out.below HB1.out (Nat.le_refl _)) hs1) (by omega)) ?_
          rintro e w2 ⟨us, rfl, hlc, hb2⟩
          have hs2 := hb2.size
          have HLC := Lib.hid hlc
          have HLT := Lib.hid (lc_lt hlc)
          have HB2 := Lib.hid (HB1.out.trans (hb2.mono hs1))
          have HBL2 := Lib.hid ((hb2.block _ hg1).trans HBL.out)
          clear hlc hb2 HBL
          go_wp2_with fail
          refine Calls.mono (by exact gencode_any w2 _ _ l (lent_sms H0.out.fits (by omega) HBL2.out) (by omega) (HT.out.below HB2.out hlb)) ?_
          rintro e w3 ⟨v3, us3, rfl, hr3, hb3⟩
          have hs3 := hb3.size
          have HR3 := Lib.hid hr3
          have HB3 := Lib.hid (HB2.out.trans (hb3.mono (by omega)))
          have HLC3 := Lib.hid (HLC.out.below hb3 (Nat.le_refl _))
          have HBL3 := Lib.hid ((hb3.block _ (by omega)).trans HBL2.out)
          clear hr3 hb3 HLC HBL2
          go_wp2_with fail
          refine Calls.mono (by exact decode_any w3 _ _ m (HLC3.out.chs (by omega) (fun c hc => by have := HMD.out c hc; omega)) (by omega) (HT.out.below HB3.out hlb)) ?_
          rintro e w4 ⟨v4, rfl, ho4, hb4⟩
          have hs4 := hb4.size
          have HO4 := Lib.hid ho4
          have HR4 := Lib.hid (HR3.out.below hb4 (Nat.le_refl _))
          have HB4 := Lib.hid (HB3.out.trans (hb4.mono (by omega)))
          have HLC4 := Lib.hid (HLC3.out.below hb4 (Nat.le_refl _))
          have HBL4 := Lib.hid ((hb4.block _ (by omega)).trans HBL3.out)
          clear ho4 hb4 HLC3 HBL3 HR3
          go_wp2_with fail
          refine Calls.mono (by exact wholeSm_any wr.heap.size w4 ao cap l HBL4.out wr.heap.size (H0.out.below HB4.out (Nat.le_refl _)) (by omega)) ?_
          rintro e w5 ⟨rfl, n5, hw5⟩
          have hd5 : Below w4.heap.size w4 w5 := by rw [hw5]; exact drewN_b w4 n5
          have hs5 := hd5.size
          have HO5 := Lib.hid (own_of_same HO4.out (fun q hq => hd5.block q (HO4.out.lt q hq).2))
          have HR5 := Lib.hid (HR4.out.below hd5 (Nat.le_refl _))
          have HB5 := Lib.hid (HB4.out.trans (hd5.mono (by omega)))
          have HLC5 := Lib.hid (HLC4.out.below hd5 (Nat.le_refl _))
          have HBL5 := Lib.hid ((hd5.block _ (by omega)).trans HBL4.out)
          clear hw5 hd5 HO4 HR4 HLC4 HBL4
          go_wp2_with fail
          refine Calls.mono (by exact wholeCh_any w1.heap.size w1.heap.size w5 ac cc us m HLC5.out wr.heap.size (H1.out.below HB5.out (Nat.le_refl _)) (by omega) (fun c hc => by have := HMD.out c hc; omega)) ?_
          rintro e w6 ⟨rfl, n6, hw6⟩
          have hd6 : Below w5.heap.size w5 w6 := by rw [hw6]; exact drewN_b w5 n6
          have hs6 := hd6.size
          have HO6 := Lib.hid (own_of_same HO5.out (fun q hq => hd6.block q (HO5.out.lt q hq).2))
          have HR6 := Lib.hid (HR5.out.below hd6 (Nat.le_refl _))
          have HB6 := Lib.hid (HB5.out.trans (hd6.mono (by omega)))
          have HLC6 := Lib.hid (HLC5.out.below hd6 (Nat.le_refl _))
          have HBL6 := Lib.hid ((hd6.block _ (by omega)).trans HBL5.out)
          clear hw6 hd6 HO5 HR5 HLC5 HBL5
          go_wp2_with fail
          refine Calls.mono (by exact spoilSm_any wr.heap.size (l.length + 2) w6 _ (by omega) (by simp [smCs_len]; omega) HBL6.out l.length) ?_
          rintro e w7 ⟨rfl, hg7⟩
          have hs7 := hg7.size
          have HO7 := Lib.hid (own_of_same HO6.out (fun q hq => hg7.block q (HO6.out.lt q hq).2 (fun e => by injection e with e; have := (HO6.out.lt q hq).1; omega)))
          have HR7 := Lib.hid (HR6.out.same (fun q hq => hg7.block q (HR6.out.lt.1 q hq).2 (fun e => by injection e with e; have := (HR6.out.lt.1 q hq).1; omega)) (fun u hu q hq => hg7.block q (HR6.out.lt.2 u hu q hq).2 (fun e => by injection e with e; have := (HR6.out.lt.2 u hu q hq).1; omega)))
          have HB7 := Lib.hid (HB6.out.grown hg7 (by omega) (fun q hq => by injection hq with hq; omega))
          have HLC7 := Lib.hid (lc_keep HLC6.out (fun q q1 q2 => hg7.block q q2 (fun e => by injection e with e; omega)))
          clear hg7 HO6 HR6 HLC6 HBL6
          go_wp2_with fail
          refine Calls.mono (by exact spoilCh_any w1.heap.size w1.heap.size w7 us m HLC7.out (by omega) (fun c hc => by have := HMD.out c hc; omega) w2.heap.size HLT.out) ?_
          rintro e w8 ⟨rfl, hb8, hk8⟩
          have hs8 := hb8.size
          have HO8 := Lib.hid (own_of_same HO7.out (fun q hq => hk8 q (by have := (HO7.out.lt q hq).1; omega) (HO7.out.lt q hq).2))
          have HR8 := Lib.hid (HR7.out.same (fun q hq => hk8 q (HR7.out.lt.1 q hq).1 (HR7.out.lt.1 q hq).2) (fun u hu q hq => hk8 q (HR7.out.lt.2 u hu q hq).1 (HR7.out.lt.2 u hu q hq).2))
          have HB8 := Lib.hid (HB7.out.trans (hb8.mono (by omega)))
          clear hb8 hk8 HO7 HR7 HLC7
          go_wp2_with fail
          refine Calls.mono (by exact xencode_any w8 ao cap l ((H0.out.below HB8.out (Nat.le_refl _)).mono (by omega)) hle (by omega) ((HK.out.below HB8.out).mono (by omega))) ?_
          rintro e w9 ⟨v9, us9, rfl, hr9, hb9⟩
          have hs9 := hb9.size
          have HX9 := Lib.hid hr9
          have HO9 := Lib.hid (own_of_same HO8.out (fun q hq => hb9.block q (HO8.out.lt q hq).2))
          have HR9 := Lib.hid (HR8.out.below hb9 (Nat.le_refl _))
          have HB9 := Lib.hid (HB8.out.trans (hb9.mono (by omega)))
          clear hr9 hb9 HO8 HR8
          go_wp2_with fail
          refine Calls.mono (by exact xdecode_any w9 ac cc m (chs_mono (H1.out.below HB9.out (Nat.le_refl _)) (by omega)) (by omega) (fun c hc => by have := HMD.out c hc; omega) ((HK.out.below HB9.out).mono (by omega))) ?_
          rintro e wA ⟨vA, rfl, hoA, hbA⟩
          have hsA := hbA.size
          have HYA := Lib.hid hoA
          have HXA := Lib.hid (HX9.out.below hbA (Nat.le_refl _))
          have HOA := Lib.hid (own_of_same HO9.out (fun q hq => hbA.block q (HO9.out.lt q hq).2))
          have HRA := Lib.hid (HR9.out.below hbA (Nat.le_refl _))
          have HBA := Lib.hid (HB9.out.trans (hbA.mono (by omega)))
          clear hoA hbA HO9 HR9 HX9
          have hXl : (if fitE l = 0 then Gz.cut l else []).length ≤ 2000 := by
            split
            · next hE =>
              rw [Gz.cut_eq ((fitE_good (fun s hs => (H0.out.fits s hs).2)).1 hE)]
              simp
              omega
            · exact Nat.zero_le _
          have hXd : ∀ c ∈ (if fitE l = 0 then Gz.cut l else []), c.d.length ≤ 1099511627776 := by
            split
            · next hE => exact cut_small2 ((fitE_good (fun s hs => (H0.out.fits s hs).2)).1 hE)
            · intro c hc; simp at hc
          have HXD := Lib.hid hXd
          have hDl := dcd_len m
          have HDF := Lib.hid (dcd_fits m)
          clear hXd
          generalize (if fitE l = 0 then Gz.cut l else []) = X at *
          generalize fitE l = E1 at *
          generalize (dcd m).1 = Y at *
          generalize (dcd m).2 = E2 at *
          obtain ⟨wB, hwB⟩ : ∃ wB, wA.alloc (.cells (bk3 (.slice none 0 0) (.slice none 0 0) (.slice none 0 0)) 73) = wB := ⟨_, rfl⟩
          have hbB : Below wA.heap.size wA wB := by rw [← hwB]; exact al_b wA _
          have hsB : wA.heap.size < wB.heap.size := by rw [← hwB]; simp
          have hbx : wB.heap[wA.heap.size]? = some (.cells (bk3 (.slice none 0 0) (.slice none 0 0) (.slice none 0 0)) 73 (0, 0)) := by rw [← hwB]; exact heap_alloc_new wA _
          have HBX := Lib.hid hbx
          have HRB := Lib.hid (HRA.out.below hbB (Nat.le_refl _))
          have HAB := Lib.hid hbB
          have HBB := Lib.hid (HBA.out.trans (hbB.mono (by omega)))
          have HRL := Lib.hid HRA.out.lt
          obtain ⟨a4, c4, hv4, hm4⟩ := Sms.owns HOA.out (by unfold maxLen; omega) HDF.out
          obtain ⟨aA, cA, hvA, hmA⟩ := Sms.owns HYA.out (by unfold maxLen; omega) HDF.out
          obtain ⟨a3, c3, hv3, hm3⟩ := Chs.owns HRA.out (by unfold maxLen; omega) (fun c hc => by have := HXD.out c hc; omega)
          obtain ⟨a9, c9, hv9, hm9⟩ := Chs.owns HXA.out (by unfold maxLen; omega) (fun c hc => by have := HXD.out c hc; omega)
          subst hv4 hvA hv3 hv9
          have HM4 := Lib.hid hm4
          have HMA := Lib.hid hmA
          have HM3 := Lib.hid hm3
          have HM9 := Lib.hid hm9
          have HUL := Lib.hid HRA.out.len
          have HO4 := Lib.hid (own_low HOA.out (show w2.heap.size ≤ w3.heap.size by omega))
          have HR3 := Lib.hid HRA.out.row
          clear hbB hbx HYA HXA HOA hm4 hmA hm3 hm9
          have HLT3 := Lib.hid (show ∀ k, ((Value.slice a3 X.length c3).ownBlock = some k ∨ ∃ u ∈ us3, u.ownBlock = some k) → k < wA.heap.size from fun k hk => by
            rcases hk with hk | ⟨u, hu, hk⟩
            · exact (HRL.out.1 k hk).2
            · exact (HRL.out.2 u hu k hk).2)
          have HLNS := Lib.hid (show ∀ j, (X.map (fun c => c.d.length)).getD j 0 ≤ 1099511627776 from fun j => by
            rw [List.getD_eq_getElem?_getD, List.getElem?_map]
            cases hj : X[j]? with
            | none => exact Nat.zero_le _
            | some c => exact HXD.out c (List.mem_of_getElem? hj))
          unfold bk3 at hwB
          go_wp2_with fail
          refine Calls.mono (by exact bookChunks_any wB w2.heap.size wA.heap.size _ us3 X ⟨HBX.out, Bk.nil _ _ _ _ _, fun i j u v h => by simp at h⟩ HRB.out HLT3.out (by omega) (fun c hc => by have := HXD.out c hc; omega) (by omega)) ?_
          rintro e wC ⟨rfl, vb, cs, hbkC, hcsC, hbC⟩
          have hsC := hbC.size
          have HBKC := Lib.hid hbkC
          have HCSC := Lib.hid hcsC
          have HAC := Lib.hid (HAB.out.trans hbC)
          clear hbkC hcsC hbC hwB HBX
          go_wp2_with fail
          refine Calls.mono (by exact bookSamples_any wC w2.heap.size wA.heap.size vb us3 _ cs _ _ _ HBKC.out (own_below HO4.out HAC.out (Nat.le_refl _)) (by omega)) ?_
          rintro e wD ⟨rfl, ss, hbkD, hssD, hbD, hkD⟩
          have hsD := hbD.size
          have HBKD := Lib.hid hbkD
          have HSSD := Lib.hid hssD
          have HCSD := Lib.hid (hkD _ _ _ _ _ _ HCSC.out (by decide))
          have HAD := Lib.hid (HAC.out.trans hbD)
          clear hbkD hssD hbD hkD
          go_wp2_with fail
          refine Calls.mono (by exact gzKnown_any wD (HT.out.below (HBA.out.trans (HAD.out.mono (by omega))) hlb)) ?_
          rintro e wE ⟨rfl, hbE⟩
          have hsE := hbE.size
          have HBKE := Lib.hid (bookG_below HBKD.out hbE (Nat.le_refl _))
          have HSSE := Lib.hid (own_below HSSD.out hbE (Nat.le_refl _))
          have HCSE := Lib.hid (own_below HCSD.out hbE (Nat.le_refl _))
          have HAE := Lib.hid (HAD.out.trans (hbE.mono (by omega)))
          clear hbE
          have hq1 := sameCh_any wA.heap.size wA.heap.size wE a3 a9 c3 c9 _ _ (HM3.out.below HAE.out (Nat.le_refl _)) (HM9.out.below HAE.out (Nat.le_refl _))
          rw [List.length_map] at hq1
          have HQ1 := Lib.hid hq1
          clear hq1
          go_wp2_with fail
          refine Calls.mono (by exact HQ1.out) ?_
          rintro e wF ⟨bF, rfl, hbF, nF, hwF⟩
          obtain rfl : bF = true := hbF.2 (by trivial)
          have hdF : Below wE.heap.size wE wF := by rw [hwF]; exact drewN_b wE nF
          have hsF := hdF.size
          have HAF := Lib.hid (HAE.out.trans (hdF.mono (by omega)))
          have HBKF := Lib.hid (bookG_below HBKE.out hdF (Nat.le_refl _))
          have HSSF := Lib.hid (own_below HSSE.out hdF (Nat.le_refl _))
          have HCSF := Lib.hid (own_below HCSE.out hdF (Nat.le_refl _))
          have HQ2 := Lib.hid (sameSm_any wA.heap.size wA.heap.size wF a4 aA c4 cA Y Y (HM4.out.below HAF.out (Nat.le_refl _)) (HMA.out.below HAF.out (Nat.le_refl _)))
          clear hbF hdF hwF
          go_wp2_with fail
          refine Calls.mono (by exact HQ2.out) ?_
          rintro e wG ⟨bG, rfl, hbG, nG, hwG⟩
          obtain rfl : bG = true := hbG.2 (by trivial)
          have hdG : Below wF.heap.size wF wG := by rw [hwG]; exact drewN_b wF nG
          have hsG := hdG.size
          have HAG := Lib.hid (HAF.out.trans (hdG.mono (by omega)))
          have HBKG := Lib.hid (bookG_below HBKF.out hdG (Nat.le_refl _))
          have HSSG := Lib.hid (own_below HSSF.out hdG (Nat.le_refl _))
          have HCSG := Lib.hid (own_below HCSF.out hdG (Nat.le_refl _))
          clear hbG hdG hwG
          go_wp2_with fail
          refine Calls.mono (by exact ownG_any wG w2.heap.size wA.heap.size vb us3 _ ss cs _ _ _ _ _ _ HBKG.out HSSG.out (own_below HO4.out HAG.out (Nat.le_refl _)) HCSG.out (own_below HR3.out HAG.out (Nat.le_refl _)) (by omega) (by omega) HLNS.out (by have := HUL.out; omega) (by omega)) ?_
          rintro e wH ⟨rfl, hbH⟩
          have HBH := Lib.hid ((HBA.out.trans (HAG.out.mono (by omega))).trans (hbH.mono (by omega)))
          clear hbH
          go_wp2_with fail
          go_ret
          exact ⟨rfl, HBH.out⟩
end Go.Proofs.YtepjpdhmjchakaaGreatDoor.gorillaLists
