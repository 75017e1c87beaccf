/- NumSums: the walk. -/
import Derived.Test.YtoodbdjmbicaeaaRf6
import Derived.Test.YtoodbdjmbicaeaaRow
namespace Go.Proofs.Ytoodbdjmbicaeaa.numSums
open Go.RowKit
set_option maxRecDepth 8000
set_option maxHeartbeats 1000000
set_option linter.unusedVariables false
set_option linter.unusedSimpArgs false

/-- A cell of 64 bits. -/
def f64 (n : Nat) : Value := .int .u64 (n : Int)
theorem of_wf64 {z : Int} (h : (Lit.int .u64 z).wf = true) : ∃ n : Nat, z = (n : Int) ∧ n < 2 ^ 64 := by
  have h1 : 0 ≤ z ∧ z ≤ 18446744073709551615 := by
    have := h; simp [Lit.wf, IntKind.min, IntKind.max, IntKind.signed, IntKind.bits] at this; omega
  exact ⟨z.toNat, by omega, by omega⟩
theorem sl64 {w : World} {a : Option Addr} {len cap : Nat} {zs : List Int} (h : IsRow .u64 w a len cap zs) (hlen : len ≤ 140737488355328) :
    ∃ l : List Nat, l.length = len ∧ SlC 0 w.heap.size f64 w a cap l ∧ ∀ x ∈ l, x < 2 ^ 64 := by
  rcases h with ⟨rfl, rfl, rfl, rfl⟩ | ⟨x, rfl, hlc, hm, hz, hcell, hwf⟩
  · exact ⟨[], rfl, ⟨by simp, fun _ => rfl, fun h => absurd rfl h, by simp⟩, by simp⟩
  · refine ⟨(zs.take len).map (fun z => z.toNat), by simp; omega, ⟨by simp; omega, (fun h => by cases h), fun hne => ?_, by simp; omega⟩, fun x hx => ?_⟩
    · have h0 : 0 < zs.length := by
        rcases Nat.eq_zero_or_pos zs.length with h | h
        · rw [List.length_eq_zero_iff] at h; subst h; simp at hne
        · exact h
      obtain ⟨b, off, rfl, hc⟩ := ints_at hcell h0
      refine ⟨b, off, rfl, Nat.zero_le _, block_lt_of_cell (hc 0 h0), fun j hj => ?_⟩
      have hj' : j < zs.length := by simp at hj; omega
      rw [hc j hj']
      have e : zs.getD j 0 = zs[j] := by simp [List.getD, hj']
      rw [e]
      obtain ⟨n, h1, _⟩ := of_wf64 (hwf _ (List.getElem_mem hj'))
      simp only [List.getElem_map, List.getElem_take, f64]
      rw [h1]
      simp
    · obtain ⟨z, hz1, rfl⟩ := List.mem_map.1 hx
      obtain ⟨n, h1, h2⟩ := of_wf64 (hwf z (List.mem_of_mem_take hz1))
      omega

/-- The sum of the first i numbers. -/
def sumW (l : List Nat) (i : Nat) : Nat := (l.take i).foldl (fun s x => opt (Ieee.double.add s x)) 0
theorem sumW_succ (l : List Nat) (i : Nat) (h : i < l.length) : sumW l (i + 1) = opt (Ieee.double.add (sumW l i) l[i]) := by
  unfold sumW
  rw [List.take_succ_eq_append_getElem h, List.foldl_append]
  rfl
theorem sumW_lt (l : List Nat) (i : Nat) : sumW l i < 2 ^ 64 := by
  unfold sumW
  generalize l.take i = m
  suffices h : ∀ (m : List Nat) (s : Nat), s < 2 ^ 64 → m.foldl (fun s x => opt (Ieee.double.add s x)) s < 2 ^ 64 from h m 0 (by decide)
  intro m
  induction m with
  | nil => intro s hs; exact hs
  | cons x m ih => intro s hs; exact ih _ (opt_lt fun r h => Ieee.double.add_lt h)
def meanW (l : List Nat) : Nat := if l.length = 0 then theNaN else opt (Ieee.double.div (sumW l l.length) (intW l.length))

theorem ksum (w : World) (ao : Option Addr) (cap : Nat) (l : List Nat) (h : SlC 0 w.heap.size f64 w ao cap l) (hL : l.length ≤ 10000) :
    Kn 25 #[.slice ao l.length cap] w (wd (sumW l l.length)) := by
  have H := Lib.hid h
  clear h
  obtain ⟨L, hLL⟩ : ∃ L, l.length = L := ⟨_, rfl⟩
  have HL := Lib.hid hLL
  rw [hLL] at hL ⊢
  clear hLL
  go_enter Try.func25, Try.ntmps25
  go_wp2_with fail
  go_loopw [3, 8] (fun x y wr => ∃ (i n : Nat), i ≤ L ∧ x = wd (sumW l i) ∧ y = .int .i64 (i : Int) ∧ wr = w.drewN n) (fun _ y _ => L - (intOf y).toNat)
  case atStart => exact ⟨0, 0, Nat.zero_le _, rfl, rfl, rfl⟩
  case round =>
    obtain ⟨i, n, hi, rfl, rfl, rfl⟩ := hrel
    by_cases hlt : i < L
    · have hil : i < l.length := by have := HL.out; omega
      obtain ⟨b, off, rfl, _, _, hcell⟩ := H.out.cells (by intro e; subst e; simp at hil)
      have hc : (w.drewN n).cell? ⟨b, off + i, none⟩ = some (.int .u64 (l[i] : Int)) := hcell i hil
      have hs := sumW_succ l i hil
      obtain ⟨x, hx⟩ : ∃ x, l[i] = x := ⟨_, rfl⟩
      rw [hx] at hc hs
      have i1 : (0 : Int) ≤ (i : Int) ∧ (i : Int) < (L : Int) := by omega
      have HS := Lib.hid hs
      clear hcell hs hx
      go_wp2_with (go_at_call 14; refine (kadd _ _ _).mono ?_; rintro e w3 ⟨rfl, n3, hw3⟩; subst hw3)
      go_roundw
      case rel => exact ⟨i + 1, n + n3, by omega, by rw [HS.out], by push_cast; rfl, rfl⟩
      case measure => simp [intOf]; omega
    · obtain rfl : i = L := by omega
      have j1 : ¬ (i : Int) < (i : Int) := by omega
      go_wp2_with fail
      go_ret
      exact ⟨rfl, n, rfl⟩
theorem krsum (w : World) (ao : Option Addr) (cap : Nat) (l : List Nat) (h : SlC 0 w.heap.size f64 w ao cap l) (hl64 : ∀ x ∈ l, x < 2 ^ 64) (hL : l.length ≤ 10000) :
    Kb 26 #[.slice ao l.length cap] w (wd (sumW l l.length)) := by
  have H := Lib.hid h
  have H64 := Lib.hid hl64
  unfold Kb
  obtain ⟨base, hbase⟩ : ∃ base, w.heap.size = base := ⟨_, rfl⟩
  obtain ⟨L, hLL⟩ : ∃ L, l.length = L := ⟨_, rfl⟩
  have HL := Lib.hid hLL
  rw [hLL] at hL ⊢
  rw [hbase]
  clear hLL h hl64
  go_enter Try.func26, Try.ntmps26
  go_wp2_with fail
  go_loopw [3, 4] (fun x y wr => ∃ (i : Nat), i ≤ L ∧ x = wd (sumW l i) ∧ y = .int .i64 (i : Int) ∧ Below base w wr) (fun _ y _ => L - (intOf y).toNat)
  case atStart => exact ⟨0, Nat.zero_le _, rfl, rfl, by rw [← hbase]; exact Below.refl _ _⟩
  case round =>
    obtain ⟨i, hi, rfl, rfl, hbel⟩ := hrel
    have BL := Lib.hid hbel
    by_cases hlt : i < L
    · have hil : i < l.length := by have := HL.out; omega
      obtain ⟨b, off, rfl, _, hb2, hcell⟩ := H.out.cells (by intro e; subst e; simp at hil)
      have hc : wr.cell? ⟨b, off + i, none⟩ = some (.int .u64 (l[i] : Int)) := (World.cell?_of_block (a := ⟨b, off + i, none⟩) (BL.out.block b (by omega))).trans (hcell i hil)
      have hs := sumW_succ l i hil
      have hx64 := H64.out l[i] (List.getElem_mem hil)
      have hs64 := sumW_lt l i
      obtain ⟨x, hx⟩ : ∃ x, l[i] = x := ⟨_, rfl⟩
      rw [hx] at hc hs hx64
      have i1 : (0 : Int) ≤ (i : Int) ∧ (i : Int) < (L : Int) := by omega
      have HS := Lib.hid hs
      clear hcell hs hx hbel
      go_wp2_with (go_at_call 52; refine (kradd hs64 hx64 _).mono ?_; rintro e w3 ⟨rfl, b3⟩; have B3 := Lib.hid (BL.out.trans (b3.mono (by rw [← hbase]; exact BL.out.size))); clear b3)
      go_roundw
      case rel => exact ⟨i + 1, by omega, by rw [HS.out], by push_cast; rfl, B3.out⟩
      case measure => simp [intOf]; omega
    · obtain rfl : i = L := by omega
      have j1 : ¬ (i : Int) < (i : Int) := by omega
      clear hbel
      go_wp2_with fail
      go_ret
      exact ⟨rfl, BL.out⟩
theorem intW_lt (n : Int) : intW n < 2 ^ 64 := by
  unfold intW
  have := infR_lt
  exact word_lt' (by omega)
theorem kmean (w : World) (ao : Option Addr) (cap : Nat) (l : List Nat) (h : SlC 0 w.heap.size f64 w ao cap l) (hL : l.length ≤ 10000) :
    Kn 27 #[.slice ao l.length cap] w (wd (meanW l)) := by
  have K := Lib.hid (ksum w ao cap l h hL)
  unfold meanW
  obtain ⟨L, hLL⟩ : ∃ L, l.length = L := ⟨_, rfl⟩
  rw [hLL] at hL K ⊢
  by_cases h0 : L = 0
  · rw [if_pos h0]
    subst h0
    clear hLL h
    go_enter Try.func27, Try.ntmps27
    go_wp2_with fail
    go_ret
    exact ⟨rfl, 0, rfl⟩
  · rw [if_neg h0]
    have h0' : ((L : Int) == 0) = false := by simpa using h0
    clear hLL h h0
    go_enter Try.func27, Try.ntmps27
    go_wp2_with (first
      | (go_at_call 23; refine (kdiv _ _ _).mono ?_; rintro e w3 ⟨rfl, n3, hw3⟩; subst hw3)
      | (go_at_call 22; refine (kintW _ _).mono ?_; rintro e wz ⟨rfl, hw1⟩; have hw2 := hw1.symm; clear hw1; subst hw2)
      | (go_at_call 25; refine (K.out).mono ?_; rintro e w4 ⟨rfl, n4, hw4⟩; subst hw4))
    go_ret
    exact ⟨rfl, n4 + n3, rfl⟩
theorem krmean (w : World) (ao : Option Addr) (cap : Nat) (l : List Nat) (h : SlC 0 w.heap.size f64 w ao cap l) (hl64 : ∀ x ∈ l, x < 2 ^ 64) (hL : l.length ≤ 10000) :
    Kb 28 #[.slice ao l.length cap] w (wd (meanW l)) := by
  have K := Lib.hid (krsum w ao cap l h hl64 hL)
  have hsl := sumW_lt l l.length
  unfold meanW
  unfold Kb
  obtain ⟨L, hLL⟩ : ∃ L, l.length = L := ⟨_, rfl⟩
  rw [hLL] at hL K hsl ⊢
  by_cases h0 : L = 0
  · rw [if_pos h0]
    subst h0
    clear hLL h
    go_enter Try.func28, Try.ntmps28
    go_wp2_with fail
    go_ret
    exact ⟨rfl, Below.refl _ _⟩
  · rw [if_neg h0]
    have h0' : ((L : Int) == 0) = false := by simpa using h0
    have hil := intW_lt (L : Int)
    clear hLL h h0
    go_enter Try.func28, Try.ntmps28
    go_wp2_with (first
      | (go_at_call 55; refine (krdiv hsl hil _).mono ?_; rintro e w3 ⟨rfl, b3⟩; have B3 := Lib.hid (B5.out.trans (b3.mono B5.out.size)); clear b3)
      | (go_at_call 30; refine (krInt (by omega) (by omega) _).mono ?_; rintro e w5 ⟨rfl, b5⟩; have B5 := Lib.hid (B4.out.trans (b5.mono B4.out.size)); clear b5)
      | (go_at_call 26; refine (K.out).mono ?_; rintro e w4 ⟨rfl, b4⟩; have B4 := Lib.hid b4; clear b4))
    go_ret
    exact ⟨rfl, B3.out⟩

theorem walkN (ao : Option Addr) (cap : Nat) (l : List Nat) (w : World) (h : SlC 0 w.heap.size f64 w ao cap l) (hl64 : ∀ x ∈ l, x < 2 ^ 64) :
    Kb 5 #[.slice ao l.length cap] w (.bool true) := by
  by_cases hL : l.length ≤ 10000
  · have KN := Lib.hid (fun (W : World) (hb : Below w.heap.size w W) => kmean W ao cap l ((h.below hb (Nat.le_refl _)).mono (Nat.le_refl _) hb.size) hL)
    have KS := Lib.hid (fun (W : World) (hb : Below w.heap.size w W) => ksum W ao cap l ((h.below hb (Nat.le_refl _)).mono (Nat.le_refl _) hb.size) hL)
    have KRN := Lib.hid (fun (W : World) (hb : Below w.heap.size w W) => krmean W ao cap l ((h.below hb (Nat.le_refl _)).mono (Nat.le_refl _) hb.size) hl64 hL)
    have KRS := Lib.hid (fun (W : World) (hb : Below w.heap.size w W) => krsum W ao cap l ((h.below hb (Nat.le_refl _)).mono (Nat.le_refl _) hb.size) hl64 hL)
    obtain ⟨S, hS⟩ : ∃ S, sumW l l.length = S := ⟨_, rfl⟩
    obtain ⟨M, hM⟩ : ∃ M, meanW l = M := ⟨_, rfl⟩
    rw [hS] at KS KRS
    rw [hM] at KN KRN
    obtain ⟨L, hLL⟩ : ∃ L, l.length = L := ⟨_, rfl⟩
    rw [hLL] at hL KN KS KRN KRS ⊢
    unfold Kb
    have hL' : ¬ (10000 : Int) < (L : Int) := by omega
    clear hS hM hLL h hl64
    go_enter Try.func5, Try.ntmps5
    go_wp2_with (first
      | (go_at_call 28; refine (KRN.out _ B3.out).mono ?_; rintro e w4 ⟨rfl, b4⟩; have B4 := Lib.hid (B3.out.trans (b4.mono B3.out.size)); clear b4)
      | (go_at_call 27; refine (KN.out _ B2.out).mono ?_; rintro e w3 ⟨rfl, n3, hw3⟩; have B3 := Lib.hid (show Below w.heap.size w w3 by rw [hw3]; exact B2.out.trans (drew_below _ _ _)); clear hw3)
      | (go_at_call 26; refine (KRS.out _ B1.out).mono ?_; rintro e w2 ⟨rfl, b2⟩; have B2 := Lib.hid (B1.out.trans (b2.mono B1.out.size)); clear b2)
      | (go_at_call 25; refine (KS.out _ B0.out).mono ?_; rintro e w1 ⟨rfl, n1, hw3⟩; have B1 := Lib.hid (show Below w.heap.size w w1 by rw [hw3]; exact B0.out.trans (drew_below _ _ _)); clear hw3)
      | (go_at_call 13; refine (kknown _).mono ?_; rintro e w0 ⟨rfl, n0, hw3⟩; have B0 := Lib.hid (show Below w.heap.size w w0 by rw [hw3]; exact drew_below _ _ _); clear hw3))
    go_ret
    exact ⟨rfl, B4.out⟩
  · obtain ⟨L, hLL⟩ : ∃ L, l.length = L := ⟨_, rfl⟩
    rw [hLL] at hL ⊢
    have hL' : (10000 : Int) < (L : Int) := by omega
    clear hLL h hl64 hL
    go_enter Try.func5, Try.ntmps5
    go_wp2_with fail
    go_ret
    exact ⟨rfl, Below.refl _ _⟩
theorem walk (a0 : Option Addr) (len0 cap0 : Nat) (z0 : List Int) (w : World) (w0 : IsRow .u64 w a0 len0 cap0 z0) (b0 : len0 ≤ 140737488351232) :
    Calls Try.prog 5 #[.slice a0 len0 cap0] w fun e w' => e = .returned (.bool true) ∧ Below w.heap.size w w' := by
  obtain ⟨l, rfl, h1, h2⟩ := sl64 w0 (by omega)
  exact walkN a0 cap0 l w h1 h2
end Go.Proofs.Ytoodbdjmbicaeaa.numSums
