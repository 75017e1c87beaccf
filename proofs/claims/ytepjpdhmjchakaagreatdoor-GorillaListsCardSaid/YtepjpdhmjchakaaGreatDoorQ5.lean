import Derived.Test.YtepjpdhmjchakaaGreatDoorQ4
import Derived.Test.YtepjpdhmjchakaaGreatDoorQ1
import Derived.Test.YtepjpdhmjchakaaGreatDoorQ3
/- The document's chunk of rising samples. Condition: the document's list of buckets (BkAt). -/
namespace Go.Proofs.YtepjpdhmjchakaaGreatDoor
open Go.RowKit
set_option linter.unusedVariables false

/-- The window as the document has it: -1 where there is none. -/
def xwL : Option (Nat × Nat) → Int
  | none => -1
  | some p => p.1
def xwR : Option (Nat × Nat) → Int
  | none => -1
  | some p => p.2

/-- What the appender has behind the first k samples. -/
theorem all_take {l : List Gz.Smp} (hf : Gz.Fine l) {k : Nat} (h1 : 1 ≤ k) (hk : k ≤ l.length) : (Gz.Ap.all (l.take k)).ok ∧ (Gz.Ap.all (l.take k)).n = k ∧ (Gz.Ap.all (l.take k)).t = (l[k - 1]'(by omega)).t ∧ (Gz.Ap.all (l.take k)).v = (l[k - 1]'(by omega)).v := by
  have hft : Gz.Fine (l.take k) := ⟨fun s hs => hf.far s (List.mem_of_mem_take hs), fun i a b ha hb => by
    have h3 := (List.getElem?_eq_some_iff.1 hb).1
    simp at h3
    rw [List.getElem?_take_of_lt (by omega)] at ha hb
    exact hf.rise i a b ha hb, by have := hf.len; simp; omega⟩
  obtain ⟨q1, q2, q3⟩ := Gz.all_has _ (l.take k) rfl hft
  obtain ⟨q4, q5⟩ := q3 (l[k - 1]'(by omega)) (by rw [List.getLast?_eq_getElem?, List.length_take, Nat.min_eq_left hk, List.getElem?_take_of_lt (by omega), List.getElem?_eq_getElem])
  exact ⟨q1, by rw [q2]; simp; omega, q4, q5⟩
theorem take_two {l : List Gz.Smp} {j : Nat} (h : j + 1 < l.length) : l.take (j + 2) = (l.take j ++ [l[j]]) ++ [l[j + 1]] := by
  rw [List.take_succ_eq_append_getElem h, List.take_succ_eq_append_getElem (by omega)]
/-- The first time. -/
theorem all_first : ∀ (n : Nat) (l : List Gz.Smp) (h : l.length = n + 1), (Gz.Ap.all l).first = (l[0]'(by omega)).t
  | 0, l, h => by
    match l, h with
    | [a], _ => rfl
  | n + 1, l, h => by
    obtain ⟨l, s, rfl⟩ := Gz.snoc_ex l (by intro e; subst e; simp at h)
    have hl : l.length = n + 1 := by simpa using h
    have ih := all_first n l hl
    rw [Gz.Ap.all_snoc]
    have hn : (Gz.Ap.all l).n ≠ 0 := by
      obtain ⟨l', s', rfl⟩ := Gz.snoc_ex l (by intro e; subst e; simp at hl)
      rw [Gz.Ap.all_snoc]
      unfold Gz.Ap.add
      split <;> simp
    unfold Gz.Ap.add
    rw [if_neg hn]
    show (Gz.Ap.all l).first = _
    rw [ih, List.getElem_append_left]
theorem xtime_all {w : World} {n B : Nat} {r : Option Nat} {L : List Bool} {b o c b0 o0 c0 b1 o1 c1 b2 o2 c2 : Nat} (h : Xr w B r L) (hB : n ≤ B) (hr : ∀ k, r = some k → n ≤ k) (hk : BkAt n w b o c b0 o0 c0 b1 o1 c1 b2 o2 c2) (bs off cap : Nat) (l : List Gz.Smp) (hs : ∀ j (h : j < l.length), SmAt w bs (off + j * 2) l[j]) (hf : Gz.Fine l)
    (k : Nat) (h1 : 1 ≤ k) (h2 : k < l.length) (hL : L.length < 1000000) :
    Calls Tryz.prog 76 #[.pointer (some ⟨B, 0, none⟩), .slice (some ⟨bs, off, none⟩) l.length cap, .int .i64 (k : Int)] w fun e w' => e = .returned (.tuple #[]) ∧ ∃ r', Xr w' B r' (L ++ Gz.timE (Gz.Ap.all (l.take k)).n ((l[k].t - (Gz.Ap.all (l.take k)).t) - (Gz.Ap.all (l.take k)).step) (l[k].t - (Gz.Ap.all (l.take k)).t).toNat) ∧ Gro B r w w' ∧ Anew w r r' := by
  obtain ⟨q1, q2, q3, q4⟩ := all_take hf h1 (by omega)
  have hlen := hf.len
  by_cases e : k = 1
  · subst e
    rw [q2, q3, (q1.one q2).1]
    have hr1 := hf.rise 0 l[0] l[1] (List.getElem?_eq_getElem (by omega)) (List.getElem?_eq_getElem (by omega))
    have f0 := hf.far l[0] (List.getElem_mem (by omega))
    have f1 := hf.far l[1] (List.getElem_mem (by omega))
    have p1 := (hs 0 (by omega)).c0
    have p2 := (hs 1 h2).c0
    rw [Nat.zero_mul, Nat.add_zero] at p1
    exact xtime_one h bs off l.length cap l[0].t l[1].t (by omega) p2 p1 ⟨f0.1, hr1, f1.2.1⟩ hL
  · obtain ⟨j, rfl⟩ : ∃ j, k = j + 2 := ⟨k - 2, by omega⟩
    have hst : (Gz.Ap.all (l.take (j + 2))).step = (l[j + 1].t - l[j].t).toNat := by rw [take_two (by omega), Gz.all_step]
    rw [q2, hst, q3]
    have hr1 := hf.rise j l[j] l[j + 1] (List.getElem?_eq_getElem (by omega)) (List.getElem?_eq_getElem (by omega))
    have hr2 := hf.rise (j + 1) l[j + 1] l[j + 2] (List.getElem?_eq_getElem (by omega)) (List.getElem?_eq_getElem (by omega))
    have f0 := hf.far l[j] (List.getElem_mem (by omega))
    have f1 := hf.far l[j + 2] (List.getElem_mem (by omega))
    exact xtime_any h hB hr hk bs off l.length cap (j + 2) (j + 1) j l[j].t l[j + 1].t l[j + 2].t (by omega) rfl rfl (by omega) (hs (j + 2) h2).c0 (hs (j + 1) (by omega)).c0 (hs j (by omega)).c0 ⟨f0.1, hr1, hr2, f1.2.1⟩ hL

set_option maxHeartbeats 16000000 in
set_option maxRecDepth 100000 in
theorem xchunk_any (n : Nat) (w : World) (ao : Option Addr) (cap : Nat) (l : List Gz.Smp) (h : Sms n w ao cap l) (hn : n ≤ w.heap.size) (hf : Gz.Fine l) (hne : 0 < l.length) {b o c b0 o0 c0 b1 o1 c1 b2 o2 c2 : Nat} (hk : BkAt n w b o c b0 o0 c0 b1 o1 c1 b2 o2 c2) :
    Calls Tryz.prog 30 #[.slice ao l.length cap] w fun e w' => ∃ v, e = .returned (chV (Gz.Ap.all l).first (Gz.Ap.all l).t l.length v) ∧ w'.ownsRow w.heap.size 5 1 v (Bt.pack (Gz.Ap.all l).L).length ((Bt.pack (Gz.Ap.all l).L).map f8) ∧ Below w.heap.size w w' := by
  have hlen := hf.len
  obtain ⟨Wa, hWa⟩ : ∃ Wa, (w.alloc (.cells #[.int .i64 0, .int .i64 0, .int .i64 0, .slice none 0 0] 26)).alloc (.cells #[.slice none 0 0, .int .i64 0] 141) = Wa := ⟨_, rfl⟩
  have hba : Below w.heap.size w Wa := by rw [← hWa]; exact ((Below.refl _ _).alloc (Nat.le_refl _) _).alloc (by simp) _
  have hsa : Wa.heap.size = w.heap.size + 2 := by rw [← hWa]; simp
  have hxa : Xr Wa (w.heap.size + 1) none [] := by
    have := new_xr (w.alloc (.cells #[.int .i64 0, .int .i64 0, .int .i64 0, .slice none 0 0] 26))
    rw [hWa] at this
    simpa using this
  have hra : Wa.heap[w.heap.size]? = some (.cells #[.int .i64 0, .int .i64 0, .int .i64 0, .slice none 0 0] 26 (0, 0)) := by
    rw [← hWa]
    exact (Below.heap_alloc _ _ _ (by simp)).trans (heap_alloc_new w _)
  obtain ⟨bs, off, rfl, hbs, hcell⟩ := (h.below hba hn).cells (by intro e; subst e; simp at hne)
  have hc0 := (hcell 0 hne).c0
  have hd0 := (hcell 0 hne).c1
  rw [Nat.zero_mul, Nat.add_zero] at hc0 hd0
  have i0 : (0 : Int) < (l.length : Int) := by omega
  have f0 := hf.far l[0] (List.getElem_mem (by omega))
  have H := Lib.hid (h.below hba hn)
  have HK := Lib.hid ((hk.below (hba.mono hn)).mono (show n ≤ w.heap.size + 1 by omega))
  have HF := Lib.hid hf
  have HC := Lib.hid hcell
  have HXA := Lib.hid hxa
  have HRA := Lib.hid hra
  have HBA := Lib.hid hba
  have HWA := Lib.hid hWa
  clear h hk hf hcell hxa hra hba
  rw [← hWa] at hc0 hd0
  clear hWa
  go_enter Tryz.func30, Tryz.ntmps30
  go_wp2_with fail
  rw [HWA.out]
  refine (xsigned_any Wa (w.heap.size + 1) none [] l[0].t HXA.out (by decide) (by unfold Gz.far at f0; omega) (by unfold Gz.far at f0; omega)).mono ?_
  rintro e w1 ⟨rfl, r1, hx1, hg1, hn1⟩
  have hb1 := hg1.below (B := w.heap.size + 1) (by omega) (Nat.le_refl _) (by simp)
  have hc1 : w1.cell? ⟨bs, off + 1, none⟩ = some (.int .u64 (l[0].v : Int)) := by
    rw [HWA.out] at hd0
    exact (hb1.cell (show bs < _ by omega)).trans hd0
  have hr1 : ∀ q, r1 = some q → w.heap.size + 1 ≤ q := fun q hq => by rcases hn1 q hq with h6 | h6; cases h6; omega
  have HX1 := Lib.hid hx1
  have HB1 := Lib.hid hb1
  have HR1 := Lib.hid hr1
  clear hx1 hg1 hn1 hb1 hr1 hc0 hd0
  go_wp2_with fail
  have hvl := vb_len' l[0].t (by unfold Gz.far at f0; omega) (by unfold Gz.far at f0; omega)
  refine (xbits_lit w1 (w.heap.size + 1) r1 _ _ _ l[0].v 64 rfl rfl HX1.out (by simp; omega) f0.2.2 (by decide)).mono ?_
  rintro e w2 ⟨rfl, r2, hx2, hg2, hn2⟩
  have hb2 := hg2.below (B := w.heap.size + 1) (by have := HB1.out.size; omega) (Nat.le_refl _) HR1.out
  have HR2 := Lib.hid (show ∀ q, r2 = some q → w.heap.size + 1 ≤ q from fun q hq => by
    rcases hn2 q hq with h6 | h6
    · exact HR1.out q h6
    · have := HB1.out.size; omega)
  have HX2 := Lib.hid (show Xr w2 (w.heap.size + 1) r2 (Gz.Ap.all (l.take 1)).L by
    have e : l.take 1 = [l[0]] := by rw [List.take_succ_eq_append_getElem hne]; rfl
    rw [e]
    simpa [Gz.Ap.all, Gz.Ap.add, Gz.Ap.new] using hx2)
  have HB2 := Lib.hid (HB1.out.trans hb2)
  clear hx2 hg2 hn2 hb2 hc1 hvl
  go_wp2_with fail
  go_loopw [4, 5, 6] (fun lf rt i wr => ∃ (k : Nat) (r : Option Nat), 1 ≤ k ∧ k ≤ l.length ∧ i = .int .i64 k ∧ lf = .int .i64 (xwL (Gz.Ap.all (l.take k)).win) ∧ rt = .int .i64 (xwR (Gz.Ap.all (l.take k)).win) ∧ Xr wr (w.heap.size + 1) r (Gz.Ap.all (l.take k)).L ∧ (∀ q, r = some q → w.heap.size + 1 ≤ q) ∧ Below (w.heap.size + 1) Wa wr) (fun _ _ i _ => l.length - (intOf i).toNat)
  case atStart => exact ⟨1, r2, Nat.le_refl _, hne, rfl, by rw [show l.take 1 = [l[0]] by rw [List.take_succ_eq_append_getElem hne]; rfl]; rfl, by rw [show l.take 1 = [l[0]] by rw [List.take_succ_eq_append_getElem hne]; rfl]; rfl, HX2.out, HR2.out, HB2.out⟩
  case round =>
    obtain ⟨k, r, hk1, hk, rfl, rfl, rfl, hx, hr, hb⟩ := hrel
    clear HX2 HR2 HB2 HX1 HR1 HB1
    by_cases h1 : k < l.length
    · obtain ⟨j, rfl⟩ : ∃ j, k = j + 1 := ⟨k - 1, by omega⟩
      obtain ⟨q1, q2, q3, q4⟩ := all_take HF.out hk1 hk
      obtain ⟨bs', off', he, _, hcw⟩ := (H.out.below hb (by omega)).cells (by intro e; subst e; simp at hne)
      cases he
      have hL24 : (Gz.Ap.all (l.take (j + 1))).L.length ≤ 24000 := by have := q1.len; rw [q2] at this; omega
      have HT := Lib.hid (xtime_all hx (Nat.le_refl _) hr (HK.out.below hb) bs off cap l hcw HF.out (j + 1) hk1 h1 (by omega))
      have hadd : Gz.Ap.all (l.take (j + 1 + 1)) = (Gz.Ap.all (l.take (j + 1))).add l[j + 1] := by rw [List.take_succ_eq_append_getElem h1, Gz.Ap.all_snoc]
      have hwin := q1.win
      have htl := Gz.timE_len (Gz.Ap.all (l.take (j + 1))).n ((l[j + 1].t - (Gz.Ap.all (l.take (j + 1))).t) - (Gz.Ap.all (l.take (j + 1))).step) (l[j + 1].t - (Gz.Ap.all (l.take (j + 1))).t).toNat (by
        have := HF.out.far l[j + 1] (List.getElem_mem h1)
        have := q1.t
        unfold Gz.far at *
        omega)
      have HLN := Lib.hid (show (Gz.Ap.all (l.take (j + 1 + 1))).L = (Gz.Ap.all (l.take (j + 1))).L ++ Gz.timE (Gz.Ap.all (l.take (j + 1))).n ((l[j + 1].t - (Gz.Ap.all (l.take (j + 1))).t) - (Gz.Ap.all (l.take (j + 1))).step) (l[j + 1].t - (Gz.Ap.all (l.take (j + 1))).t).toNat ++ (Gz.numE (Gz.Ap.all (l.take (j + 1))).win (l[j + 1].v ^^^ (Gz.Ap.all (l.take (j + 1))).v)).1 by
        rw [hadd]; unfold Gz.Ap.add; rw [if_neg (by omega)])
      have HWN := Lib.hid (show (Gz.Ap.all (l.take (j + 1 + 1))).win = (Gz.numE (Gz.Ap.all (l.take (j + 1))).win (l[j + 1].v ^^^ (Gz.Ap.all (l.take (j + 1))).v)).2 by
        rw [hadd]; unfold Gz.Ap.add; rw [if_neg (by omega)])
      have hvl := (HF.out.far l[j + 1] (List.getElem_mem h1)).2.2
      have hpl := (HF.out.far l[j] (List.getElem_mem (by omega))).2.2
      have hv4 : (Gz.Ap.all (l.take (j + 1))).v = l[j].v := q4
      have hd2 := (hcw (j + 1) h1).c1
      have hd1 := (hcw j (by omega)).c1
      have hxx : bits .xor .u64 (l[j + 1].v : Int) (l[j].v : Int) = ((l[j + 1].v ^^^ l[j].v : Nat) : Int) := bits_xor_u64_nat _ _ hvl hpl
      have hXl := Gz.xor_lt hvl hpl
      rw [hv4] at HLN HWN
      have HX3 := Lib.hid hx
      have HR3 := Lib.hid hr
      have HB3 := Lib.hid hb
      have e2 : IntKind.i64.wrap (j : Int) = (j : Int) := by rw [IntKind.wrap_i64]; omega
      have i1 : (0 : Int) ≤ ((j + 1 : Nat) : Int) ∧ ((j + 1 : Nat) : Int) < (l.length : Int) := by omega
      have i2 : (0 : Int) ≤ (j : Int) ∧ (j : Int) < (l.length : Int) := by omega
      clear hx hr hb hcw hadd hvl hpl hv4
      generalize l[j + 1].v ^^^ l[j].v = X at *
      generalize Gz.timE (Gz.Ap.all (l.take (j + 1))).n ((l[j + 1].t - (Gz.Ap.all (l.take (j + 1))).t) - (Gz.Ap.all (l.take (j + 1))).step) (l[j + 1].t - (Gz.Ap.all (l.take (j + 1))).t).toNat = T at *
      generalize (Gz.Ap.all (l.take (j + 1))).win = win at *
      generalize (Gz.Ap.all (l.take (j + 1))).L = L at *
      generalize hsv : l[j + 1].v = sv at *
      generalize hpv : l[j].v = pv at *
      clear q1 q2 q3 q4 hsv hpv
      go_wp2_with fail
      refine Calls.mono (by exact HT.out) ?_
      rintro e w4 ⟨rfl, r4, hx4, hg4, hn4⟩
      have HX4 := Lib.hid hx4
      have HR4 := Lib.hid (show ∀ q, r4 = some q → w.heap.size + 1 ≤ q from fun q hq => by rcases hn4 q hq with h6 | h6; exact HR3.out q h6; have := HB3.out.size; omega)
      have hb4 := hg4.below (B := w.heap.size + 1) (by have := HB3.out.size; omega) (Nat.le_refl _) HR3.out
      have HB4 := Lib.hid (HB3.out.trans hb4)
      have f2 := (hb4.cell (show bs < _ by omega)).trans hd2
      have f1 := (hb4.cell (show bs < _ by omega)).trans hd1
      clear hx4 hg4 hn4 hb4 hd1 hd2 HT
      go_wp2_with fail
      go_quiet (fail)
      generalize HW5 : World.drewN _ _ = w5 at *
      have hb5 : Below w4.heap.size w4 w5 := by rw [← HW5]; exact drewN_b _ _
      have HX5 := Lib.hid (HX4.out.below hb5)
      have HB5 := Lib.hid (HB4.out.trans (hb5.mono (by have := HB4.out.size; omega)))
      obtain ⟨r5, hr5⟩ : ∃ r5, r4 = r5 := ⟨_, rfl⟩
      have HR5 := HR4
      rw [hr5] at HX5 HR5
      clear hb5 HW5 f1 f2 hr5 HX4 HB4 HR4
      by_cases hX0 : X = 0
      · have gx : ((X : Int) == 0) = true := by rw [hX0]; rfl
        have hnum : Gz.numE win X = ([false], win) := by unfold Gz.numE; rw [if_pos hX0]
        go_wp2_with fail
        refine (xbit_any w5 (w.heap.size + 1) r5 _ false HX5.out (by first | (simp; omega) | (simp [Bt.nb_len]; omega))).mono ?_
        rintro e w6 ⟨rfl, r6, hx6, hg6, hn6⟩
        have HX6 := Lib.hid hx6
        have HR6 := Lib.hid (show ∀ q, r6 = some q → w.heap.size + 1 ≤ q from fun q hq => by rcases hn6 q hq with h6 | h6; exact HR5.out q h6; have := HB5.out.size; omega)
        have HB6 := Lib.hid (HB5.out.trans (hg6.below (B := w.heap.size + 1) (by have := HB5.out.size; omega) (Nat.le_refl _) HR5.out))
        clear hx6 hg6 hn6
        go_wp2_with fail
        refine ⟨⟨j + 1 + 1, r6, by omega, by omega, by push_cast; rfl, by first | (rw [HWN.out, hnum]; done) | (rw [HWN.out, hnum]; rfl), by first | (rw [HWN.out, hnum]; done) | (rw [HWN.out, hnum]; rfl), ?_, HR6.out, HB6.out⟩, by simp [intOf]; omega⟩
        rw [HLN.out, hnum]
        have hx := HX6.out
        simpa using hx
      · have gx : ((X : Int) == 0) = false := by simp [hX0]
        have hs := Gz.both_le X hX0 hXl
        have hlz := Gz.lz_le X
        rcases win with _ | ⟨a, b'⟩
        · simp only [xwL, xwR]
          have hnum : Gz.numE none X = ([true, true] ++ Bt.nb (Gz.lz X) 5 ++ Bt.nb (63 - Gz.lz X - Gz.tz X) 6 ++ Bt.nb (X / 2 ^ Gz.tz X) (64 - Gz.lz X - Gz.tz X), some (Gz.lz X, Gz.tz X)) := by unfold Gz.numE; rw [if_neg hX0]
          have HQ := Lib.hid (show ((X / 2 ^ Gz.tz X : Nat) : Int) = (X : Int) / 2 ^ Gz.tz X by rw [Int.natCast_ediv, Int.natCast_pow]; rfl)
          go_wp2_with fail
          refine (xbit_any w5 (w.heap.size + 1) r5 _ true HX5.out (by first | (simp; omega) | (simp [Bt.nb_len]; omega))).mono ?_
          rintro e w6 ⟨rfl, r6, hx6, hg6, hn6⟩
          have HX6 := Lib.hid hx6
          have HR6 := Lib.hid (show ∀ q, r6 = some q → w.heap.size + 1 ≤ q from fun q hq => by rcases hn6 q hq with h6 | h6; exact HR5.out q h6; have := HB5.out.size; omega)
          have HB6 := Lib.hid (HB5.out.trans (hg6.below (B := w.heap.size + 1) (by have := HB5.out.size; omega) (Nat.le_refl _) HR5.out))
          clear hx6 hg6 hn6
          go_wp2_with fail
          refine (xends_any w6 X hX0 hXl).mono ?_
          rintro e wz ⟨rfl, hwz⟩
          subst hwz
          go_wp2_with fail
          refine (xbit_any w6 (w.heap.size + 1) r6 _ true HX6.out (by first | (simp; omega) | (simp [Bt.nb_len]; omega))).mono ?_
          rintro e w7 ⟨rfl, r7, hx7, hg7, hn7⟩
          have HX7 := Lib.hid hx7
          have HR7 := Lib.hid (show ∀ q, r7 = some q → w.heap.size + 1 ≤ q from fun q hq => by rcases hn7 q hq with h6 | h6; exact HR6.out q h6; have := HB6.out.size; omega)
          have HB7 := Lib.hid (HB6.out.trans (hg7.below (B := w.heap.size + 1) (by have := HB6.out.size; omega) (Nat.le_refl _) HR6.out))
          clear hx7 hg7 hn7
          go_wp2_with fail
          refine (xbits_lit w7 (w.heap.size + 1) r7 _ _ _ (Gz.lz X) (5) (by first | with_reducible exact HQ.out | rfl | omega | (simp only [IntKind.wrap_u64, IntKind.wrap_i64]; omega)) (by first | with_reducible exact HQ.out | rfl | omega | (simp only [IntKind.wrap_u64, IntKind.wrap_i64]; omega)) HX7.out (by first | (simp; omega) | (simp [Bt.nb_len]; omega)) (by omega) (by omega)).mono ?_
          rintro e w8 ⟨rfl, r8, hx8, hg8, hn8⟩
          have HX8 := Lib.hid hx8
          have HR8 := Lib.hid (show ∀ q, r8 = some q → w.heap.size + 1 ≤ q from fun q hq => by rcases hn8 q hq with h6 | h6; exact HR7.out q h6; have := HB7.out.size; omega)
          have HB8 := Lib.hid (HB7.out.trans (hg8.below (B := w.heap.size + 1) (by have := HB7.out.size; omega) (Nat.le_refl _) HR7.out))
          clear hx8 hg8 hn8
          go_wp2_with fail
          refine (xbits_lit w8 (w.heap.size + 1) r8 _ _ _ (63 - Gz.lz X - Gz.tz X) (6) (by first | with_reducible exact HQ.out | rfl | omega | (simp only [IntKind.wrap_u64, IntKind.wrap_i64]; omega)) (by first | with_reducible exact HQ.out | rfl | omega | (simp only [IntKind.wrap_u64, IntKind.wrap_i64]; omega)) HX8.out (by first | (simp; omega) | (simp [Bt.nb_len]; omega)) (by omega) (by omega)).mono ?_
          rintro e w9 ⟨rfl, r9, hx9, hg9, hn9⟩
          have HX9 := Lib.hid hx9
          have HR9 := Lib.hid (show ∀ q, r9 = some q → w.heap.size + 1 ≤ q from fun q hq => by rcases hn9 q hq with h6 | h6; exact HR8.out q h6; have := HB8.out.size; omega)
          have HB9 := Lib.hid (HB8.out.trans (hg9.below (B := w.heap.size + 1) (by have := HB8.out.size; omega) (Nat.le_refl _) HR8.out))
          clear hx9 hg9 hn9
          go_wp2_with fail
          refine (xbits_lit w9 (w.heap.size + 1) r9 _ _ _ (X / 2 ^ Gz.tz X) (64 - Gz.lz X - Gz.tz X) (by first | with_reducible exact HQ.out | rfl | omega | (simp only [IntKind.wrap_u64, IntKind.wrap_i64]; omega)) (by first | with_reducible exact HQ.out | rfl | omega | (simp only [IntKind.wrap_u64, IntKind.wrap_i64]; omega)) HX9.out (by first | (simp; omega) | (simp [Bt.nb_len]; omega)) (Nat.lt_of_le_of_lt (Nat.div_le_self _ _) hXl) (by omega)).mono ?_
          rintro e w10 ⟨rfl, r10, hx10, hg10, hn10⟩
          have HX10 := Lib.hid hx10
          have HR10 := Lib.hid (show ∀ q, r10 = some q → w.heap.size + 1 ≤ q from fun q hq => by rcases hn10 q hq with h6 | h6; exact HR9.out q h6; have := HB9.out.size; omega)
          have HB10 := Lib.hid (HB9.out.trans (hg10.below (B := w.heap.size + 1) (by have := HB9.out.size; omega) (Nat.le_refl _) HR9.out))
          clear hx10 hg10 hn10
          go_wp2_with fail
          refine ⟨⟨j + 1 + 1, r10, by omega, by omega, by push_cast; rfl, by first | (rw [HWN.out, hnum]; done) | (rw [HWN.out, hnum]; rfl), by first | (rw [HWN.out, hnum]; done) | (rw [HWN.out, hnum]; rfl), ?_, HR10.out, HB10.out⟩, by simp [intOf]; omega⟩
          rw [HLN.out, hnum]
          have hx := HX10.out
          simpa using hx
        · obtain ⟨ha31, hab⟩ := hwin a b' rfl
          simp only [xwL, xwR]
          have g0 : decide ((0 : Int) ≤ (a : Int)) = true := decide_eq_true (by omega)
          by_cases hfit : a ≤ Gz.lz X ∧ b' ≤ Gz.tz X
          · have hnum : Gz.numE (some (a, b')) X = ([true, false] ++ Bt.nb (X / 2 ^ b') (64 - a - b'), some (a, b')) := by unfold Gz.numE; rw [if_neg hX0]; simp only; rw [if_pos hfit]
            have HQ := Lib.hid (show ((X / 2 ^ b' : Nat) : Int) = (X : Int) / 2 ^ b' by rw [Int.natCast_ediv, Int.natCast_pow]; rfl)
            have g1 : decide ((a : Int) ≤ (Gz.lz X : Int)) = true := decide_eq_true (by omega)
            have g2 : decide ((b' : Int) ≤ (Gz.tz X : Int)) = true := decide_eq_true (by omega)
            go_wp2_with fail
            refine (xbit_any w5 (w.heap.size + 1) r5 _ true HX5.out (by first | (simp; omega) | (simp [Bt.nb_len]; omega))).mono ?_
            rintro e w6 ⟨rfl, r6, hx6, hg6, hn6⟩
            have HX6 := Lib.hid hx6
            have HR6 := Lib.hid (show ∀ q, r6 = some q → w.heap.size + 1 ≤ q from fun q hq => by rcases hn6 q hq with h6 | h6; exact HR5.out q h6; have := HB5.out.size; omega)
            have HB6 := Lib.hid (HB5.out.trans (hg6.below (B := w.heap.size + 1) (by have := HB5.out.size; omega) (Nat.le_refl _) HR5.out))
            clear hx6 hg6 hn6
            go_wp2_with fail
            refine (xends_any w6 X hX0 hXl).mono ?_
            rintro e wz ⟨rfl, hwz⟩
            subst hwz
            go_wp2_with fail
            refine (xbit_any w6 (w.heap.size + 1) r6 _ false HX6.out (by first | (simp; omega) | (simp [Bt.nb_len]; omega))).mono ?_
            rintro e w7 ⟨rfl, r7, hx7, hg7, hn7⟩
            have HX7 := Lib.hid hx7
            have HR7 := Lib.hid (show ∀ q, r7 = some q → w.heap.size + 1 ≤ q from fun q hq => by rcases hn7 q hq with h6 | h6; exact HR6.out q h6; have := HB6.out.size; omega)
            have HB7 := Lib.hid (HB6.out.trans (hg7.below (B := w.heap.size + 1) (by have := HB6.out.size; omega) (Nat.le_refl _) HR6.out))
            clear hx7 hg7 hn7
            go_wp2_with fail
            refine (xbits_lit w7 (w.heap.size + 1) r7 _ _ _ (X / 2 ^ b') (64 - a - b') (by first | with_reducible exact HQ.out | rfl | omega | (simp only [IntKind.wrap_u64, IntKind.wrap_i64]; omega)) (by first | with_reducible exact HQ.out | rfl | omega | (simp only [IntKind.wrap_u64, IntKind.wrap_i64]; omega)) HX7.out (by first | (simp; omega) | (simp [Bt.nb_len]; omega)) (Nat.lt_of_le_of_lt (Nat.div_le_self _ _) hXl) (by omega)).mono ?_
            rintro e w8 ⟨rfl, r8, hx8, hg8, hn8⟩
            have HX8 := Lib.hid hx8
            have HR8 := Lib.hid (show ∀ q, r8 = some q → w.heap.size + 1 ≤ q from fun q hq => by rcases hn8 q hq with h6 | h6; exact HR7.out q h6; have := HB7.out.size; omega)
            have HB8 := Lib.hid (HB7.out.trans (hg8.below (B := w.heap.size + 1) (by have := HB7.out.size; omega) (Nat.le_refl _) HR7.out))
            clear hx8 hg8 hn8
            go_wp2_with fail
            refine ⟨⟨j + 1 + 1, r8, by omega, by omega, by push_cast; rfl, by first | (rw [HWN.out, hnum]; done) | (rw [HWN.out, hnum]; rfl), by first | (rw [HWN.out, hnum]; done) | (rw [HWN.out, hnum]; rfl), ?_, HR8.out, HB8.out⟩, by simp [intOf]; omega⟩
            rw [HLN.out, hnum]
            have hx := HX8.out
            simpa using hx
          · have hnum : Gz.numE (some (a, b')) X = ([true, true] ++ Bt.nb (Gz.lz X) 5 ++ Bt.nb (63 - Gz.lz X - Gz.tz X) 6 ++ Bt.nb (X / 2 ^ Gz.tz X) (64 - Gz.lz X - Gz.tz X), some (Gz.lz X, Gz.tz X)) := by unfold Gz.numE; rw [if_neg hX0]; simp only; rw [if_neg hfit]
            have HQ := Lib.hid (show ((X / 2 ^ Gz.tz X : Nat) : Int) = (X : Int) / 2 ^ Gz.tz X by rw [Int.natCast_ediv, Int.natCast_pow]; rfl)
            by_cases ha : a ≤ Gz.lz X
            · have hb0 : ¬ b' ≤ Gz.tz X := fun h => hfit ⟨ha, h⟩
              have g1 : decide (a ≤ Gz.lz X) = true := decide_eq_true ha
              have g2 : decide (b' ≤ Gz.tz X) = false := decide_eq_false hb0
              clear hfit
              go_wp2_with fail
              refine (xbit_any w5 (w.heap.size + 1) r5 _ true HX5.out (by first | (simp; omega) | (simp [Bt.nb_len]; omega))).mono ?_
              rintro e w6 ⟨rfl, r6, hx6, hg6, hn6⟩
              have HX6 := Lib.hid hx6
              have HR6 := Lib.hid (show ∀ q, r6 = some q → w.heap.size + 1 ≤ q from fun q hq => by rcases hn6 q hq with h6 | h6; exact HR5.out q h6; have := HB5.out.size; omega)
              have HB6 := Lib.hid (HB5.out.trans (hg6.below (B := w.heap.size + 1) (by have := HB5.out.size; omega) (Nat.le_refl _) HR5.out))
              clear hx6 hg6 hn6
              go_wp2_with fail
              refine (xends_any w6 X hX0 hXl).mono ?_
              rintro e wz ⟨rfl, hwz⟩
              subst hwz
              go_wp2_with fail
              refine (xbit_any w6 (w.heap.size + 1) r6 _ true HX6.out (by first | (simp; omega) | (simp [Bt.nb_len]; omega))).mono ?_
              rintro e w7 ⟨rfl, r7, hx7, hg7, hn7⟩
              have HX7 := Lib.hid hx7
              have HR7 := Lib.hid (show ∀ q, r7 = some q → w.heap.size + 1 ≤ q from fun q hq => by rcases hn7 q hq with h6 | h6; exact HR6.out q h6; have := HB6.out.size; omega)
              have HB7 := Lib.hid (HB6.out.trans (hg7.below (B := w.heap.size + 1) (by have := HB6.out.size; omega) (Nat.le_refl _) HR6.out))
              clear hx7 hg7 hn7
              go_wp2_with fail
              refine (xbits_lit w7 (w.heap.size + 1) r7 _ _ _ (Gz.lz X) (5) (by first | with_reducible exact HQ.out | rfl | omega | (simp only [IntKind.wrap_u64, IntKind.wrap_i64]; omega)) (by first | with_reducible exact HQ.out | rfl | omega | (simp only [IntKind.wrap_u64, IntKind.wrap_i64]; omega)) HX7.out (by first | (simp; omega) | (simp [Bt.nb_len]; omega)) (by omega) (by omega)).mono ?_
              rintro e w8 ⟨rfl, r8, hx8, hg8, hn8⟩
              have HX8 := Lib.hid hx8
              have HR8 := Lib.hid (show ∀ q, r8 = some q → w.heap.size + 1 ≤ q from fun q hq => by rcases hn8 q hq with h6 | h6; exact HR7.out q h6; have := HB7.out.size; omega)
              have HB8 := Lib.hid (HB7.out.trans (hg8.below (B := w.heap.size + 1) (by have := HB7.out.size; omega) (Nat.le_refl _) HR7.out))
              clear hx8 hg8 hn8
              go_wp2_with fail
              refine (xbits_lit w8 (w.heap.size + 1) r8 _ _ _ (63 - Gz.lz X - Gz.tz X) (6) (by first | with_reducible exact HQ.out | rfl | omega | (simp only [IntKind.wrap_u64, IntKind.wrap_i64]; omega)) (by first | with_reducible exact HQ.out | rfl | omega | (simp only [IntKind.wrap_u64, IntKind.wrap_i64]; omega)) HX8.out (by first | (simp; omega) | (simp [Bt.nb_len]; omega)) (by omega) (by omega)).mono ?_
              rintro e w9 ⟨rfl, r9, hx9, hg9, hn9⟩
              have HX9 := Lib.hid hx9
              have HR9 := Lib.hid (show ∀ q, r9 = some q → w.heap.size + 1 ≤ q from fun q hq => by rcases hn9 q hq with h6 | h6; exact HR8.out q h6; have := HB8.out.size; omega)
              have HB9 := Lib.hid (HB8.out.trans (hg9.below (B := w.heap.size + 1) (by have := HB8.out.size; omega) (Nat.le_refl _) HR8.out))
              clear hx9 hg9 hn9
              go_wp2_with fail
              refine (xbits_lit w9 (w.heap.size + 1) r9 _ _ _ (X / 2 ^ Gz.tz X) (64 - Gz.lz X - Gz.tz X) (by first | with_reducible exact HQ.out | rfl | omega | (simp only [IntKind.wrap_u64, IntKind.wrap_i64]; omega)) (by first | with_reducible exact HQ.out | rfl | omega | (simp only [IntKind.wrap_u64, IntKind.wrap_i64]; omega)) HX9.out (by first | (simp; omega) | (simp [Bt.nb_len]; omega)) (Nat.lt_of_le_of_lt (Nat.div_le_self _ _) hXl) (by omega)).mono ?_
              rintro e w10 ⟨rfl, r10, hx10, hg10, hn10⟩
              have HX10 := Lib.hid hx10
              have HR10 := Lib.hid (show ∀ q, r10 = some q → w.heap.size + 1 ≤ q from fun q hq => by rcases hn10 q hq with h6 | h6; exact HR9.out q h6; have := HB9.out.size; omega)
              have HB10 := Lib.hid (HB9.out.trans (hg10.below (B := w.heap.size + 1) (by have := HB9.out.size; omega) (Nat.le_refl _) HR9.out))
              clear hx10 hg10 hn10
              go_wp2_with fail
              refine ⟨⟨j + 1 + 1, r10, by omega, by omega, by push_cast; rfl, by first | (rw [HWN.out, hnum]; done) | (rw [HWN.out, hnum]; rfl), by first | (rw [HWN.out, hnum]; done) | (rw [HWN.out, hnum]; rfl), ?_, HR10.out, HB10.out⟩, by simp [intOf]; omega⟩
              rw [HLN.out, hnum]
              have hx := HX10.out
              simpa using hx
            · have g1 : decide (a ≤ Gz.lz X) = false := decide_eq_false ha
              clear hfit
              go_wp2_with fail
              refine (xbit_any w5 (w.heap.size + 1) r5 _ true HX5.out (by first | (simp; omega) | (simp [Bt.nb_len]; omega))).mono ?_
              rintro e w6 ⟨rfl, r6, hx6, hg6, hn6⟩
              have HX6 := Lib.hid hx6
              have HR6 := Lib.hid (show ∀ q, r6 = some q → w.heap.size + 1 ≤ q from fun q hq => by rcases hn6 q hq with h6 | h6; exact HR5.out q h6; have := HB5.out.size; omega)
              have HB6 := Lib.hid (HB5.out.trans (hg6.below (B := w.heap.size + 1) (by have := HB5.out.size; omega) (Nat.le_refl _) HR5.out))
              clear hx6 hg6 hn6
              go_wp2_with fail
              refine (xends_any w6 X hX0 hXl).mono ?_
              rintro e wz ⟨rfl, hwz⟩
              subst hwz
              go_wp2_with fail
              refine (xbit_any w6 (w.heap.size + 1) r6 _ true HX6.out (by first | (simp; omega) | (simp [Bt.nb_len]; omega))).mono ?_
              rintro e w7 ⟨rfl, r7, hx7, hg7, hn7⟩
              have HX7 := Lib.hid hx7
              have HR7 := Lib.hid (show ∀ q, r7 = some q → w.heap.size + 1 ≤ q from fun q hq => by rcases hn7 q hq with h6 | h6; exact HR6.out q h6; have := HB6.out.size; omega)
              have HB7 := Lib.hid (HB6.out.trans (hg7.below (B := w.heap.size + 1) (by have := HB6.out.size; omega) (Nat.le_refl _) HR6.out))
              clear hx7 hg7 hn7
              go_wp2_with fail
              refine (xbits_lit w7 (w.heap.size + 1) r7 _ _ _ (Gz.lz X) (5) (by first | with_reducible exact HQ.out | rfl | omega | (simp only [IntKind.wrap_u64, IntKind.wrap_i64]; omega)) (by first | with_reducible exact HQ.out | rfl | omega | (simp only [IntKind.wrap_u64, IntKind.wrap_i64]; omega)) HX7.out (by first | (simp; omega) | (simp [Bt.nb_len]; omega)) (by omega) (by omega)).mono ?_
              rintro e w8 ⟨rfl, r8, hx8, hg8, hn8⟩
              have HX8 := Lib.hid hx8
              have HR8 := Lib.hid (show ∀ q, r8 = some q → w.heap.size + 1 ≤ q from fun q hq => by rcases hn8 q hq with h6 | h6; exact HR7.out q h6; have := HB7.out.size; omega)
              have HB8 := Lib.hid (HB7.out.trans (hg8.below (B := w.heap.size + 1) (by have := HB7.out.size; omega) (Nat.le_refl _) HR7.out))
              clear hx8 hg8 hn8
              go_wp2_with fail
              refine (xbits_lit w8 (w.heap.size + 1) r8 _ _ _ (63 - Gz.lz X - Gz.tz X) (6) (by first | with_reducible exact HQ.out | rfl | omega | (simp only [IntKind.wrap_u64, IntKind.wrap_i64]; omega)) (by first | with_reducible exact HQ.out | rfl | omega | (simp only [IntKind.wrap_u64, IntKind.wrap_i64]; omega)) HX8.out (by first | (simp; omega) | (simp [Bt.nb_len]; omega)) (by omega) (by omega)).mono ?_
              rintro e w9 ⟨rfl, r9, hx9, hg9, hn9⟩
              have HX9 := Lib.hid hx9
              have HR9 := Lib.hid (show ∀ q, r9 = some q → w.heap.size + 1 ≤ q from fun q hq => by rcases hn9 q hq with h6 | h6; exact HR8.out q h6; have := HB8.out.size; omega)
              have HB9 := Lib.hid (HB8.out.trans (hg9.below (B := w.heap.size + 1) (by have := HB8.out.size; omega) (Nat.le_refl _) HR8.out))
              clear hx9 hg9 hn9
              go_wp2_with fail
              refine (xbits_lit w9 (w.heap.size + 1) r9 _ _ _ (X / 2 ^ Gz.tz X) (64 - Gz.lz X - Gz.tz X) (by first | with_reducible exact HQ.out | rfl | omega | (simp only [IntKind.wrap_u64, IntKind.wrap_i64]; omega)) (by first | with_reducible exact HQ.out | rfl | omega | (simp only [IntKind.wrap_u64, IntKind.wrap_i64]; omega)) HX9.out (by first | (simp; omega) | (simp [Bt.nb_len]; omega)) (Nat.lt_of_le_of_lt (Nat.div_le_self _ _) hXl) (by omega)).mono ?_
              rintro e w10 ⟨rfl, r10, hx10, hg10, hn10⟩
              have HX10 := Lib.hid hx10
              have HR10 := Lib.hid (show ∀ q, r10 = some q → w.heap.size + 1 ≤ q from fun q hq => by rcases hn10 q hq with h6 | h6; exact HR9.out q h6; have := HB9.out.size; omega)
              have HB10 := Lib.hid (HB9.out.trans (hg10.below (B := w.heap.size + 1) (by have := HB9.out.size; omega) (Nat.le_refl _) HR9.out))
              clear hx10 hg10 hn10
              go_wp2_with fail
              refine ⟨⟨j + 1 + 1, r10, by omega, by omega, by push_cast; rfl, by first | (rw [HWN.out, hnum]; done) | (rw [HWN.out, hnum]; rfl), by first | (rw [HWN.out, hnum]; done) | (rw [HWN.out, hnum]; rfl), ?_, HR10.out, HB10.out⟩, by simp [intOf]; omega⟩
              rw [HLN.out, hnum]
              have hx := HX10.out
              simpa using hx
    · have e : k = l.length := by omega
      subst e
      obtain ⟨q1, q2, q3, q4⟩ := all_take HF.out hk1 hk
      rw [List.take_length] at hx q1 q2 q3 q4
      have hfirst := all_first _ l (by omega : l.length = (l.length - 1) + 1)
      obtain ⟨m, hm⟩ : ∃ m, l.length - 1 = m := ⟨_, rfl⟩
      obtain ⟨bs', off', he, _, hcw⟩ := (H.out.below hb (by omega)).cells (by intro e; subst e; simp at hne)
      cases he
      have d0 := (hcw 0 hne).c0
      rw [Nat.zero_mul, Nat.add_zero] at d0
      have d1 := (hcw (l.length - 1) (by omega)).c0
      generalize htl : (l[l.length - 1]'(by omega)).t = tl at *
      rw [hm] at d1
      have e2 : IntKind.i64.wrap ((l.length : Int) - 1) = (m : Int) := by rw [IntKind.wrap_i64]; omega
      have i2 : (0 : Int) ≤ (m : Int) ∧ (m : Int) < (l.length : Int) := by omega
      have hL24 : (Gz.Ap.all l).L.length ≤ 24000 := by have := q1.len; rw [q2] at this; omega
      have hres : wr.heap[w.heap.size]? = some (.cells #[.int .i64 0, .int .i64 0, .int .i64 0, .slice none 0 0] 26 (0, 0)) := (hb.block w.heap.size (by omega)).trans HRA.out
      have HX3 := Lib.hid hx
      have HB3 := Lib.hid hb
      have HRES := Lib.hid hres
      have HQ3 := Lib.hid q3
      have HFI := Lib.hid hfirst
      have hbq : bs ≠ w.heap.size := by omega
      clear hx hb hr hcw hres q3 q4 hfirst
      generalize hLL : (Gz.Ap.all l).L = L at *
      go_wp2_with fail
      go_region_held3 (fun w' => w'.cell? ⟨bs, off, none⟩ = some (.int .i64 l[0].t) ∧ w'.cell? ⟨bs, off + m * 2, none⟩ = some (.int .i64 tl)) (first | assumption | exact ⟨by assumption, by assumption⟩ | exact ⟨d0, d1⟩) (first | (go_at_call 79; refine (xbytes_any _ (w.heap.size + 1) r L (HX3.out.below (drew_b _)) (by omega)).mono ?_; rintro e w2 ⟨v2, rfl, ho2, hb2⟩; obtain ⟨ao2, cap2, rfl⟩ := own_slice ho2; have hsw := HB3.out.size; have f0 := (hb2.cell (show bs < wr.heap.size by omega)).trans d0; have f1 := (hb2.cell (show bs < wr.heap.size by omega)).trans d1; have hbx2 := (hb2.block w.heap.size (heap_lt HRES.out)).trans HRES.out; obtain ⟨k0, k1, k2, k3, kz⟩ := box4 hbx2; have hP5 : ((((w2.setCell ⟨w.heap.size, 0, none⟩ (.int .i64 l[0].t)).setCell ⟨w.heap.size, 1, none⟩ (.int .i64 tl)).setCell ⟨w.heap.size, 2, none⟩ (.int .i64 (l.length : Int))).setCell ⟨w.heap.size, 3, none⟩ (.slice ao2 (Bt.pack L).length cap2)).heap[bs]? = w2.heap[bs]? := (((heap_setCell_other _ _ _ _ hbq).trans (heap_setCell_other _ _ _ _ hbq)).trans (heap_setCell_other _ _ _ _ hbq)).trans (heap_setCell_other _ _ _ _ hbq); have S5 : ((((w2.setCell ⟨w.heap.size, 0, none⟩ (.int .i64 l[0].t)).setCell ⟨w.heap.size, 1, none⟩ (.int .i64 tl)).setCell ⟨w.heap.size, 2, none⟩ (.int .i64 (l.length : Int))).setCell ⟨w.heap.size, 3, none⟩ (.slice ao2 (Bt.pack L).length cap2)).cell? ⟨bs, off, none⟩ = some (.int .i64 l[0].t) ∧ ((((w2.setCell ⟨w.heap.size, 0, none⟩ (.int .i64 l[0].t)).setCell ⟨w.heap.size, 1, none⟩ (.int .i64 tl)).setCell ⟨w.heap.size, 2, none⟩ (.int .i64 (l.length : Int))).setCell ⟨w.heap.size, 3, none⟩ (.slice ao2 (Bt.pack L).length cap2)).cell? ⟨bs, off + m * 2, none⟩ = some (.int .i64 tl) := ⟨(World.cell?_of_block (a := ⟨bs, off, none⟩) hP5).trans f0, (World.cell?_of_block (a := ⟨bs, off + m * 2, none⟩) hP5).trans f1⟩; have HO2 := Lib.hid ho2; have HB2 := Lib.hid hb2; have HBX2 := Lib.hid hbx2; clear ho2 hb2 hbx2 hP5))
      go_wp2
      obtain ⟨fs, hu⟩ := struct73
      have hown := HO2.out
      refine bodyPost_ret (results_cell_row Tryz.results30 _ _ w.heap.size 26 _ (0, 0) (.struct fs) rfl (four_set HBX2.out) hu rfl size73) rfl ?_
      have hsw := HB3.out.size
      rw [HFI.out, HQ3.out, hLL]
      refine ⟨_, rfl, own_low (own_of_same hown fun k hk => four_other (by have := own_from hown k hk; have : wr.heap.size ≤ k := this; omega)) (by show w.heap.size ≤ wr.heap.size; omega), ?_⟩
      have hbw := ((HBA.out.trans (HB3.out.mono (by omega))).drew.trans (HB2.out.mono (by show w.heap.size ≤ wr.heap.size; omega)))
      exact (((hbw.setCell (Nat.le_refl _) _).setCell (Nat.le_refl _) _).setCell (Nat.le_refl _) _).setCell (Nat.le_refl _) _
end Go.Proofs.YtepjpdhmjchakaaGreatDoor
