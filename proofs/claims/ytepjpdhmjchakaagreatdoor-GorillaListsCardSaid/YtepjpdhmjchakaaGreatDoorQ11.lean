import Derived.Test.YtepjpdhmjchakaaGreatDoorQ8
import Derived.Test.YtepjpdhmjchakaaGreatDoorQ1
/- The document's Fits: the error of samples. -/
namespace Go.Proofs.YtepjpdhmjchakaaGreatDoor
open Go.RowKit
set_option linter.unusedVariables false

/-- A sample's time is out of bounds. -/
def Far (s : Gz.Smp) : Prop := s.t < -Gz.far ∨ Gz.far < s.t
/-- One of the first k samples comes no later than the one ahead of it. -/
def Ub (l : List Gz.Smp) (k : Nat) : Prop := ∃ (i : Nat) (a b : Gz.Smp), i + 1 < k ∧ l[i]? = some a ∧ l[i + 1]? = some b ∧ b.t ≤ a.t
open Classical in
/-- The error of samples. -/
noncomputable def fitE (l : List Gz.Smp) : Int := if ∃ s ∈ l, Far s then 2 else if Ub l l.length then 100 else 0
theorem fitE_fine {l : List Gz.Smp} (hv : ∀ s ∈ l, s.v < 18446744073709551616) (hl : l.length ≤ 120) : fitE l = 0 ↔ Gz.Fine l := by
  unfold fitE
  constructor
  · intro h
    split at h
    · exact absurd h (by decide)
    · next h1 =>
      split at h
      · exact absurd h (by decide)
      · next h2 =>
        refine ⟨fun s hs => ?_, fun i a b ha hb => ?_, hl⟩
        · have : ¬ Far s := fun e => h1 ⟨s, hs, e⟩
          unfold Far at this
          exact ⟨by omega, by omega, hv s hs⟩
        · rcases Int.lt_or_le a.t b.t with h3 | h3
          · exact h3
          · exact absurd ⟨i, a, b, (List.getElem?_eq_some_iff.1 hb).1, ha, hb, h3⟩ h2
  · intro h
    rw [if_neg, if_neg]
    · rintro ⟨i, a, b, h1, ha, hb, h3⟩
      have := h.rise i a b ha hb
      omega
    · rintro ⟨s, hs, h1⟩
      have := h.far s hs
      unfold Far at h1
      omega
theorem ub_yes {l : List Gz.Smp} {j : Nat} {x y : Gz.Smp} (hx : l[j + 1]? = some x) (hy : l[j]? = some y) (h : x.t ≤ y.t) : Ub l l.length := ⟨j, y, x, (List.getElem?_eq_some_iff.1 hx).1, hy, hx, h⟩
theorem ub_no {l : List Gz.Smp} {j : Nat} {x y : Gz.Smp} (hx : l[j + 1]? = some x) (hy : l[j]? = some y) (h : ¬ x.t ≤ y.t) (hu : ¬ Ub l (j + 1)) : ¬ Ub l (j + 1 + 1) := by
  rintro ⟨i, a, b, h1, h2, h3, h4⟩
  by_cases e : i = j
  · subst e
    rw [hx] at h3
    rw [hy] at h2
    injection h3 with h3
    injection h2 with h2
    subst h2 h3
    exact absurd h4 h
  · exact hu ⟨i, a, b, by omega, h2, h3, h4⟩

set_option maxHeartbeats 1000000 in
set_option maxRecDepth 100000 in
theorem xfits_any (hi : Nat) (w : World) (ao : Option Addr) (cap : Nat) (l : List Gz.Smp) (h : Sms hi w ao cap l) :
    Calls Tryz.prog 29 #[.slice ao l.length cap] w fun e w' => e = .returned (.int .u16 (fitE l)) ∧ ∃ n, w' = w.drewN n := by
  have hll := Nat.le_trans h.len (show maxLen ≤ 9223372036854775807 by decide)
  have H := Lib.hid h
  clear h
  go_enter Tryz.func29, Tryz.ntmps29
  go_wp2
  go_loopw [3] (fun i wr => ∃ k : Nat, k ≤ l.length ∧ i = .int .i64 k ∧ (∀ s ∈ l.take k, ¬ Far s) ∧ w = wr) (fun i _ => l.length - (intOf i).toNat)
  case atStart => exact ⟨0, Nat.zero_le _, rfl, by simp, rfl⟩
  case round =>
    obtain ⟨k, hk, rfl, hfar, hw⟩ := hrel
    subst hw
    have HFAR := Lib.hid hfar
    clear hfar
    by_cases hlt : k < l.length
    · obtain ⟨b, off, rfl, _, hcell⟩ := H.out.cells (by intro e; subst e; simp at hlt)
      have c0 := (hcell k hlt).c0
      have i1 : (0 : Int) ≤ (k : Int) ∧ (k : Int) < (l.length : Int) := by omega
      obtain ⟨s, hs⟩ : ∃ s, l[k] = s := ⟨_, rfl⟩
      rw [hs] at c0
      have HS := Lib.hid hs
      clear hcell hs
      by_cases h1 : s.t < -9007199254740992
      · have g1 : decide (s.t < -9007199254740992) = true := decide_eq_true h1
        have hE : fitE l = 2 := by unfold fitE; rw [if_pos ⟨s, by rw [← HS.out]; exact List.getElem_mem hlt, .inl h1⟩]
        have HE := Lib.hid hE
        clear hE h1
        go_wp2
        go_ret
        exact ⟨by rw [HE.out]; rfl, 0, rfl⟩
      · have g1 : decide (s.t < -9007199254740992) = false := decide_eq_false h1
        by_cases h2 : 9007199254740992 < s.t
        · have g2 : decide (9007199254740992 < s.t) = true := decide_eq_true h2
          have hE : fitE l = 2 := by unfold fitE; rw [if_pos ⟨s, by rw [← HS.out]; exact List.getElem_mem hlt, .inr h2⟩]
          have HE := Lib.hid hE
          clear hE h1 h2
          go_wp2
          go_ret
          exact ⟨by rw [HE.out]; rfl, 0, rfl⟩
        · have g2 : decide (9007199254740992 < s.t) = false := decide_eq_false h2
          have HN := Lib.hid (show ¬ Far s by unfold Far Gz.far; omega)
          clear h1 h2
          go_wp2
          go_roundw
          case rel =>
            refine ⟨k + 1, by omega, by push_cast; rfl, fun x hx => ?_, trivial⟩
            rw [List.take_succ_eq_append_getElem hlt, List.mem_append] at hx
            rcases hx with hx | hx
            · exact HFAR.out x hx
            · simp at hx; rw [hx, HS.out]; exact HN.out
          case measure => simp [intOf]; omega
    · obtain rfl : k = l.length := by omega
      rw [List.take_length] at HFAR
      go_wp2
      go_loopw [4] (fun i wr => ∃ (k n : Nat), 1 ≤ k ∧ (k ≤ l.length ∨ k = 1) ∧ i = .int .i64 k ∧ ¬ Ub l k ∧ wr = w.drewN n) (fun i _ => l.length - (intOf i).toNat)
      case atStart => exact ⟨1, 0, Nat.le_refl _, .inr rfl, rfl, fun ⟨i, a, b, h1, _⟩ => by omega, rfl⟩
      case round =>
        obtain ⟨k, n, hk1, hk, rfl, hub, rfl⟩ := hrel
        have HUB := Lib.hid hub
        clear hub
        by_cases hlt : k < l.length
        · obtain ⟨j, rfl⟩ : ∃ j, k = j + 1 := ⟨k - 1, by omega⟩
          obtain ⟨b, off, rfl, _, hcell⟩ := H.out.cells (by intro e; subst e; simp at hlt)
          have c1 := (hcell (j + 1) hlt).c0
          have c0 := (hcell j (by omega)).c0
          have i1 : (0 : Int) ≤ ((j + 1 : Nat) : Int) ∧ ((j + 1 : Nat) : Int) < (l.length : Int) := by omega
          have i2 : (0 : Int) ≤ (j : Int) ∧ (j : Int) < (l.length : Int) := by omega
          have e2 : IntKind.i64.wrap (j : Int) = (j : Int) := by rw [IntKind.wrap_i64]; omega
          obtain ⟨x, hx⟩ : ∃ x, l[j + 1] = x := ⟨_, rfl⟩
          obtain ⟨y, hy⟩ : ∃ y, l[j]'(by omega) = y := ⟨_, rfl⟩
          rw [hx] at c1
          rw [hy] at c0
          have HX := Lib.hid (show l[j + 1]? = some x by rw [List.getElem?_eq_getElem hlt, hx])
          have HY := Lib.hid (show l[j]? = some y by rw [List.getElem?_eq_getElem (by omega), hy])
          clear hcell hx hy
          by_cases hle : x.t ≤ y.t
          · have g1 : decide (x.t ≤ y.t) = true := decide_eq_true hle
            have hE : fitE l = 100 := by
              unfold fitE
              rw [if_neg (fun ⟨s, hs, h⟩ => HFAR.out s hs h), if_pos (ub_yes HX.out HY.out hle)]
            have HE := Lib.hid hE
            clear hE hle
            go_wp2
            go_quiet (fail)
            go_wp2
            go_ret
            exact ⟨by rw [HE.out]; rfl, _, World.drewN_drewN _ _ _⟩
          · have g1 : decide (x.t ≤ y.t) = false := decide_eq_false hle
            have HN := Lib.hid (ub_no HX.out HY.out hle HUB.out)
            clear hle
            go_wp2
            go_quiet (fail)
            go_wp2
            go_roundw
            case rel => exact ⟨j + 1 + 1, n + nq, by omega, .inl (by omega), by push_cast; rfl, HN.out, rfl⟩
            case measure => simp [intOf]; omega
        · have hE : fitE l = 0 := by
            unfold fitE
            rw [if_neg (fun ⟨s, hs, h⟩ => HFAR.out s hs h), if_neg]
            rintro ⟨i, a, b, h1, h2, h3, h4⟩
            exact HUB.out ⟨i, a, b, by omega, h2, h3, h4⟩
          have HE := Lib.hid hE
          clear hE
          go_wp2
          go_ret
          exact ⟨by rw [HE.out]; rfl, _, rfl⟩
end Go.Proofs.YtepjpdhmjchakaaGreatDoor

/- A list's chunks, piece by piece of 120; a good list is one without an error. Plain. -/
namespace Go.Proofs.YtepjpdhmjchakaaGreatDoor
open Go.RowKit Bt
set_option linter.unusedVariables false
namespace Gz
/-- The piece k of a list. -/
def piece (l : List Smp) (k : Nat) : List Smp := (l.drop (120 * k)).take 120
theorem drop_flat {c : List Smp} : ∀ (k : Nat) (Q : List (List Smp)), k ≤ Q.length → (∀ p ∈ Q, p.length = 120) → (Q.flatten ++ c).drop (120 * k) = (Q.drop k).flatten ++ c
  | 0, Q, _, _ => by simp
  | k + 1, [], h, _ => by simp at h
  | k + 1, p :: Q, h, hp => by
    have ih := drop_flat (c := c) k Q (by simpa using h) (fun q hq => hp q (by simp [hq]))
    have h1 := hp p (by simp)
    rw [List.flatten_cons, List.append_assoc, show 120 * (k + 1) = p.length + 120 * k by omega, List.drop_length_add_append]
    simpa using ih
theorem piece_at {c : List Smp} (hc : c.length ≤ 120) (Q : List (List Smp)) (hQ : ∀ p ∈ Q, p.length = 120) : (∀ k (h : k < Q.length), piece (Q.flatten ++ c) k = Q[k]) ∧ piece (Q.flatten ++ c) Q.length = c := by
  refine ⟨fun k h => ?_, ?_⟩
  · unfold piece
    rw [drop_flat k Q (by omega) hQ, List.drop_eq_getElem_cons h, List.flatten_cons, List.append_assoc, List.take_append_of_le_length (by rw [hQ _ (List.getElem_mem h)]; exact Nat.le_refl _), List.take_of_length_le (by rw [hQ _ (List.getElem_mem h)]; exact Nat.le_refl _)]
  · unfold piece
    rw [drop_flat _ Q (Nat.le_refl _) hQ, List.drop_length, List.flatten_nil, List.nil_append, List.take_of_length_le hc]
/-- A good list's chunks. -/
theorem cut_eq {l : List Smp} (hg : Good l) : cut l = (List.range ((l.length + 119) / 120)).map (fun k => ckOf (Ap.all (piece l k))) := by
  obtain ⟨P, c, rfl, hP, hc, hn, e⟩ := at_all _ l rfl hg
  have hQ : ∀ p ∈ P, p.length = 120 := fun p hp => (hP p hp).2
  obtain ⟨h1, h2⟩ := piece_at (c := c) hc.len P hQ
  have hlen : ∀ Q : List (List Smp), (∀ p ∈ Q, p.length = 120) → Q.flatten.length = 120 * Q.length := by
    intro Q
    induction Q with
    | nil => intro _; rfl
    | cons p Q ih =>
      intro h
      rw [List.flatten_cons, List.length_append, ih (fun q hq => h q (by simp [hq])), h p (by simp), List.length_cons]
      omega
  have h120 := hlen P hQ
  have hcl := hc.len
  have key : (List.range P.length).map (fun k => ckOf (Ap.all (piece (P.flatten ++ c) k))) = P.map (fun p => ckOf (Ap.all p)) := by
    refine List.ext_getElem (by simp) (fun i hi _ => ?_)
    simp only [List.getElem_map, List.getElem_range]
    rw [h1 i (by simpa using hi)]
  unfold cut
  rw [e]
  simp only
  rw [all_n hc, List.length_append, h120]
  by_cases h : 0 < c.length
  · rw [if_pos h, show (120 * P.length + c.length + 119) / 120 = P.length + 1 by omega, List.range_succ, List.map_append, key]
    simp [h2]
  · rw [if_neg h]
    obtain rfl := List.eq_nil_of_length_eq_zero (by omega : c.length = 0)
    rw [show (120 * P.length + ([] : List Smp).length + 119) / 120 = P.length by simp; omega, key]
theorem piece_len (l : List Smp) (k : Nat) : (piece l k).length = min 120 (l.length - 120 * k) := by simp [piece]
theorem piece_get {l : List Smp} {k j : Nat} (h : j < (piece l k).length) : ∃ h2 : 120 * k + j < l.length, (piece l k)[j] = l[120 * k + j] := by
  have h3 := piece_len l k
  refine ⟨by omega, ?_⟩
  simp [piece]
theorem piece_fine {l : List Smp} (hg : Good l) (k : Nat) : Fine (piece l k) := by
  have h1 : Good (l.drop (120 * k)) := by
    have h := hg
    rw [← List.take_append_drop (120 * k) l] at h
    exact h.suf
  have h2 : Good ((l.drop (120 * k)).take 120) := by
    rw [← List.take_append_drop 120 (l.drop (120 * k))] at h1
    exact h1.pre
  exact h2.fine (by simp [Nat.min_le_left])
end Gz
theorem fitE_good {l : List Gz.Smp} (hv : ∀ s ∈ l, s.v < 18446744073709551616) : fitE l = 0 ↔ Gz.Good l := by
  unfold fitE
  constructor
  · intro h
    split at h
    · exact absurd h (by decide)
    · next h1 =>
      split at h
      · exact absurd h (by decide)
      · next h2 =>
        refine ⟨fun s hs => ?_, fun i a b ha hb => ?_⟩
        · have : ¬ Far s := fun e => h1 ⟨s, hs, e⟩
          unfold Far at this
          exact ⟨by omega, by omega, hv s hs⟩
        · rcases Int.lt_or_le a.t b.t with h3 | h3
          · exact h3
          · exact absurd ⟨i, a, b, (List.getElem?_eq_some_iff.1 hb).1, ha, hb, h3⟩ h2
  · intro h
    rw [if_neg, if_neg]
    · rintro ⟨i, a, b, h1, ha, hb, h3⟩
      have := h.rise i a b ha hb
      omega
    · rintro ⟨s, hs, h1⟩
      have := h.far s hs
      unfold Far at h1
      omega
end Go.Proofs.YtepjpdhmjchakaaGreatDoor
