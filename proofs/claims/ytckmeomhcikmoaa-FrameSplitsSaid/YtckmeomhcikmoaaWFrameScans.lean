/- The walk of FrameScans. No condition. -/
import Derived.Test.YtckmeomhcikmoaaFrLent
import Derived.Test.YtckmeomhcikmoaaFrRefC
import Derived.Test.YtckmeomhcikmoaaBookRow
import Derived.Test.YtckmeomhcikmoaaRow
namespace Go.Proofs.Ytckmeomhcikmoaa.frameScans
open Go.RowKit
set_option maxRecDepth 100000
set_option maxHeartbeats 2000000

/-- What the scan gives is not more than what it was given. -/
theorem scan_size (seg : BitVec 32) (l : List (List UInt8)) : ∀ (j : Nat) (out : List (List UInt8)) (r : List UInt8) (d : Nat) (g : Bool), r.length ≤ 7680 → (∀ x ∈ out, x.length ≤ 7680) → (Fr.scan seg l j out r d g).1.length ≤ out.length + l.length ∧ ∀ x ∈ (Fr.scan seg l j out r d g).1, x.length ≤ 7680 := by
  induction l with
  | nil => intro j out r d g _ ho; exact ⟨by simp [Fr.scan], ho⟩
  | cons b l ih =>
    intro j out r d g hr ho
    rw [Fr.scan]
    by_cases h0 : 7680 < (r ++ (Fr.piece seg j b).2).length
    · rw [if_pos h0]; exact ⟨by simp, ho⟩
    rw [if_neg h0]
    split
    · obtain ⟨h1, h2⟩ := ih (j + 1) (out ++ [r ++ (Fr.piece seg j b).2]) [] (j + 1) false (by simp) (fun x hx => by
        rcases List.mem_append.1 hx with hx | hx
        · exact ho x hx
        · rw [List.mem_singleton] at hx; subst hx; omega)
      refine ⟨?_, h2⟩
      simp only [List.length_append, List.length_cons, List.length_nil] at h1 ⊢
      omega
    split
    · obtain ⟨h1, h2⟩ := ih (j + 1) out (r ++ (Fr.piece seg j b).2) d true (by omega) ho
      exact ⟨by simp only [List.length_cons]; omega, h2⟩
    · exact ⟨by simp, ho⟩

theorem ORow.above {w w' : World} {base bT : Nat} {v : Value} {vs : List Value} {rows : List (List UInt8)} (h : ORow w base v vs rows) (hb : bT ≤ base) (hs : ∀ k, bT ≤ k → k < w.heap.size → w'.heap[k]? = w.heap[k]?) : ORow w' base v vs rows :=
  h.same (fun k hk => hs k (Nat.le_trans hb (h.lt.1 k hk).1) (h.lt.1 k hk).2) (fun u hu k hk => hs k (Nat.le_trans hb (h.lt.2 u hu k hk).1) (h.lt.2 u hu k hk).2)

theorem bo_new (w : World) (base : Nat) : Bo (w.alloc (.cells (bookCells (.slice none 0 0) (.slice none 0 0)) 72)) base w.heap.size (.slice none 0 0) [] (.slice none 0 0) [] :=
  ⟨⟨fun _ => 0, fun _ => 0, ⟨heap_alloc_new _ _, Bk.nil _ _ _ _ _, Bk.nil _ _ _ _ _, by intro i j u v h; simp at h, by intro i j u v h; simp at h⟩, fun _ => Nat.zero_le _, fun _ => Nat.zero_le _⟩, by simp⟩

theorem Bk.below {E e : TypeId} {w w' : World} {base : Nat} {vb : Value} {vs : List Value} {ln : Nat → Nat} (h : Bk E e w w base vb vs ln (fun _ _ => True)) (hb : Below w.heap.size w w') : Bk E e w' w' base vb vs ln (fun _ _ => True) :=
  Bk.start (own_below h.row hb (Nat.le_refl _)) (fun j v hv => by obtain ⟨xs, hx, _⟩ := h.rows j v hv; exact ⟨xs, own_below hx hb (Nat.le_refl _)⟩)
theorem bo_below {w w' : World} {base B : Nat} {vb vr : Value} {vs us : List Value} (h : Bo w base B vb vs vr us) (hb : Below w.heap.size w w') : Bo w' base B vb vs vr us := by
  obtain ⟨⟨ln, lm, hbk, hln, hlm⟩, hs⟩ := h
  exact ⟨⟨ln, lm, ⟨(hb.block B (heap_lt hbk.cell)).trans hbk.cell, Bk.below hbk.bytes hb, Bk.below hbk.rows hb, hbk.apt, hbk.aptr⟩, hln, hlm⟩, hs⟩
theorem Gr3.orow {B : Nat} {r s : Option Nat} {w w' : World} (g : Gr3 B r s w w') {base : Nat} {v : Value} {vs : List Value} {rows : List (List UInt8)} (h : ORow w base v vs rows) {cs : Array Value} (hB : w.heap[B]? = some (.cells cs 72 (0, 0))) (h1 : r = none) (h2 : s = none) : ORow w' base v vs rows := by
  subst h1 h2
  exact ⟨g.kept h.row (own_block_ne h.row hB (by decide)) (fun k hk => by cases hk) (fun k hk => by cases hk), h.len, fun i u q hu hq => g.kept (h.each i u q hu hq) (own_block_ne (h.each i u q hu hq) hB (by decide)) (fun k hk => by cases hk) (fun k hk => by cases hk), h.apt⟩

theorem walk (a0 : Int) (v1 : Value) (rows1 : List (List UInt8)) (w : World) (w0 : (Lit.int .u32 a0).wf = true) (w1 : Rws 0 w.heap.size w v1 rows1) :
    Calls Try.prog 8 #[.int .u32 a0, v1] w fun e w' => e = .returned (.bool true) ∧ Below w.heap.size w w' := by
  obtain ⟨seg, rfl⟩ := of_wf32 w0
  have HW1 := Lib.hid w1
  clear w1 w0
  go_enter Try.func8, Try.ntmps8
  go_wp2_with fail
  refine (much_any 0 w.heap.size w _ rows1 HW1.out).mono ?_
  rintro e wm ⟨m, rfl, hm, rfl⟩
  cases m with
  | true =>
    clear hm
    go_wp2_with fail
    go_ret
    exact ⟨rfl, Below.refl _ _⟩
  | false =>
  have hm := hm rfl
  have hn : rows1.length ≤ 1000000 := by omega
  have hrl : ∀ r ∈ rows1, r.length ≤ 140737488355328 := fun r hr => by
    have : r.length ≤ rows1.flatten.length := by
      obtain ⟨a, b, rfl⟩ := List.append_of_mem hr
      simp only [List.flatten_append, List.flatten_cons, List.length_append]
      omega
    omega
  obtain ⟨R, D, hRD⟩ : ∃ R D, Fr.scan seg rows1 0 [] [] 0 false = (R, D) := ⟨_, _, rfl⟩
  have hsz := scan_size seg rows1 0 [] [] 0 false (by simp) (by simp)
  rw [hRD] at hsz
  have hR1 : R.length ≤ 1000000 := by have := hsz.1; simp at this; omega
  have HRD := Lib.hid hRD
  have HSZ := Lib.hid hsz.2
  have HRL := Lib.hid hrl
  clear hRD hsz hrl hm
  go_wp2_with fail
  refine (lentRows_any 0 w.heap.size w _ rows1 HW1.out hn (Nat.le_refl _)).mono ?_
  rintro e w1 ⟨g, vs, rfl, hlr, hb1⟩
  have hT : g < w1.heap.size ∧ ∀ u ∈ vs, ∀ k, u.ownBlock = some k → k < w1.heap.size := by
    refine ⟨heap_lt hlr.blk, fun u hu k hk => ?_⟩
    obtain ⟨i, hi⟩ := List.getElem?_of_mem hu
    have hil : i < rows1.length := by rw [← hlr.len]; exact (List.getElem?_eq_some_iff.1 hi).1
    obtain ⟨gi, e1, e2, _⟩ := hlr.each i u _ hi (List.getElem?_eq_getElem hil)
    rw [e1] at hk
    injection hk with hk
    have : gi = k := hk
    have := heap_lt e2
    omega
  have HLR := Lib.hid hlr
  have HT := Lib.hid hT
  have hs1 := hb1.size
  clear hlr hT
  go_wp2_with fail
  refine Calls.mono (scan_at w.heap.size w1.heap.size w1 _ seg (by rfl) _ _ (HLR.out.rws hn HRL.out) hn (Nat.le_refl _) R D HRD.out) ?_
  rintro e w2 ⟨u2, vs2, rfl, hr2, hb2⟩
  have hb02 := hb1.trans (hb2.mono hs1)
  have HR2 := Lib.hid hr2
  have hs2 := hb2.size
  have HLR2 := Lib.hid (HLR.out.below hb2 (Nat.le_refl _))
  clear hr2
  go_wp2_with fail
  refine (wholeRows_any 0 w.heap.size w.heap.size g w2 _ vs rows1 HLR2.out (HW1.out.below hb02 (Nat.le_refl _)) hn HRL.out).mono ?_
  rintro e w3 ⟨rfl, n3, hw3⟩
  have hb23 : Below w2.heap.size w2 w3 := by rw [hw3]; exact drew_below _ _ _
  have hz3 : w3.heap.size = w2.heap.size := by rw [hw3]; rfl
  have hb03 := hb02.trans (hb23.mono hb02.size)
  have HLR3 := Lib.hid (HLR2.out.below hb23 (Nat.le_refl _))
  have HR3 := Lib.hid (HR2.out.below hb23 (Nat.le_refl _))
  clear hw3
  go_wp2_with fail
  refine (spoilRows_any w.heap.size g w3 vs rows1 HLR3.out hn HRL.out w1.heap.size HT.out).mono ?_
  rintro e w4 ⟨rfl, hb34, htop⟩
  have hb04 := hb03.trans hb34
  have hs4 := hb34.size
  have HR4 := Lib.hid (ORow.above HR3.out (Nat.le_refl _) htop)
  clear htop
  go_wp2_with fail
  refine Calls.mono (rscan_any 0 w.heap.size w4 seg _ rows1 (HW1.out.below hb04 (Nat.le_refl _)) hn hb04.size R D HRD.out) ?_
  rintro e w5 ⟨u5, vs5, rfl, hr5, hb5⟩
  have hb05 := hb04.trans (hb5.mono hb04.size)
  have hs5 := hb5.size
  have HR5 := Lib.hid hr5
  have HRA := Lib.hid (HR4.out.below hb5 (Nat.le_refl _))
  clear hr5
  have hb6 : Below w5.heap.size w5 (w5.alloc (.cells (bookCells (.slice none 0 0) (.slice none 0 0)) 72)) := (Below.refl _ _).alloc (Nat.le_refl _) _
  have HBO := Lib.hid (bo_new w5 w.heap.size)
  have HRA6 := Lib.hid (HRA.out.below hb6 (Nat.le_refl _))
  have HR6 := Lib.hid (HR5.out.below hb6 (Nat.le_refl _))
  have HB6 := Lib.hid (hb05.trans (hb6.mono hb05.size))
  have HC6 : Hid ((w5.alloc (.cells (bookCells (.slice none 0 0) (.slice none 0 0)) 72)).heap[w5.heap.size]? = some (.cells (bookCells (.slice none 0 0) (.slice none 0 0)) 72 (0, 0))) := Lib.hid (heap_alloc_new _ _)
  have hs05 := hb05.size
  go_wp2_with fail
  refine Calls.mono (bookRows_any (w5.alloc (.cells (bookCells (.slice none 0 0) (.slice none 0 0)) 72)) w.heap.size w1.heap.size w5.heap.size (.slice none 0 0) [] (.slice none 0 0) [] u2 vs2 R HBO.out HRA6.out hs1 (by simp; omega) (by simp) (by simp) ?_ (by simp; omega) (by simp) (fun r hr => by have := HSZ.out r hr; omega)) ?_
  · rcases hu : u2.ownBlock with _ | k
    · exact .inr rfl
    · exact .inl (fun e => by cases e)
  rintro e w7 ⟨rfl, vb7, vr7, hbo7, hgr7, han1, han2⟩
  have hb07 := HB6.out.trans (hgr7.below (C := w.heap.size) HB6.out.size hs05 (fun k hk => by cases hk) (fun k hk => by cases hk))
  have hs7 := hgr7.size
  have HRA7 := Lib.hid (Gr3.orow hgr7 HRA6.out HC6.out rfl rfl)
  have HR7 := Lib.hid (Gr3.orow hgr7 HR6.out HC6.out rfl rfl)
  have HBO7 := Lib.hid hbo7
  have HB7 := Lib.hid hb07
  have hsame : sameR R R = true := by simp [sameR]
  have HSM := Lib.hid hsame
  have HRL7 : Hid (∀ r ∈ R, r.length ≤ 140737488355328) := Lib.hid (fun r hr => by have := HSZ.out r hr; omega)
  clear hbo7 hgr7 han1 han2 hb07 hsame hb1 hb2 hb02 hb23 hb03 hb34 hb04 hb5 hb05 hb6
  have hs07 := HB7.out.size
  go_wp2_with (first
    | (go_at_call 25; obtain ⟨⟨ln, lm, hbk, hln, hlm⟩, _⟩ := HBO9.out; refine Calls.mono (own_any _ w.heap.size w5.heap.size vb7 _ ln vr7 _ lm hbk (fun j => Nat.le_trans (hln j) (by decide)) (fun j => Nat.le_trans (hlm j) (by decide)) (by rw [List.nil_append, HRA7.out.len]; omega) (by simp) hs09) ?_; rintro e w10 ⟨rfl, hb10⟩)
    | (go_at_call 24; refine (sameRows_any _ _ _ _ _ _ _ R R HRW8.out HRX8.out).mono ?_; rintro e w9 ⟨rfl, n9, hw9⟩; rw [HSM.out]; have hb89 : Below w8.heap.size w8 w9 := (by rw [hw9]; exact drew_below _ _ _); have hs09 : w.heap.size ≤ w9.heap.size := Nat.le_trans hs08 hb89.size; have HBO9 := Lib.hid (bo_below HBO8.out hb89); have HB9 := Lib.hid (HB8.out.trans (hb89.mono hs08)); clear hw9 hb89)
    | (go_at_call 23; refine (frKnown_any _).mono ?_; rintro e w8 ⟨rfl, hb8⟩; have hs08 : w.heap.size ≤ w8.heap.size := Nat.le_trans hs07 hb8.size; have HBO8 := Lib.hid (bo_below HBO7.out hb8); have HRW8 := Lib.hid ((HRA7.out.below hb8 (Nat.le_refl _)).rws (by omega) HRL7.out); have HRX8 := Lib.hid ((HR7.out.below hb8 (Nat.le_refl _)).rws (by omega) HRL7.out); have HB8 := Lib.hid (HB7.out.trans (hb8.mono hs07)); clear hb8))
  go_ret
  exact ⟨rfl, HB9.out.trans hb10⟩
end Go.Proofs.Ytckmeomhcikmoaa.frameScans
