/- SameRows; lists of rows laid one behind the other; what much says. -/
import Derived.Test.YtckmeomhcikmoaaFrKnown
import Derived.Deep.AppendLies
namespace Go.Proofs.Ytckmeomhcikmoaa
open Go.RowKit
set_option maxRecDepth 100000
set_option maxHeartbeats 4000000

def sameR (a b : List (List UInt8)) : Bool := decide (a = b)

theorem sameRows_any (lo hi lo' hi' : Nat) (w : World) (v v' : Value) (rows rows' : List (List UInt8)) (h : Rws lo hi w v rows) (h' : Rws lo' hi' w v' rows') :
    Calls Try.prog 24 #[v, v'] w fun e w' => e = .returned (.bool (sameR rows rows')) ∧ ∃ n, w' = w.drewN n := by
  have H := Lib.hid h
  have H' := Lib.hid h'
  obtain ⟨vs, hvl, ⟨ao, cap, rfl, hs⟩, hr⟩ := h
  obtain ⟨vs', hvl', ⟨ao', cap', rfl, hs'⟩, hr'⟩ := h'
  have hl := hs.len
  have hl' := hs'.len
  rw [hvl] at hl ⊢
  rw [hvl'] at hl' ⊢
  rw [hvl] at H
  rw [hvl'] at H'
  have HV := Lib.hid hvl
  have HV' := Lib.hid hvl'
  have HS := Lib.hid hs
  have HS' := Lib.hid hs'
  have HR := Lib.hid hr
  have HR' := Lib.hid hr'
  clear hs hs' hr hr' hvl hvl'
  by_cases hlen : rows.length = rows'.length
  · have hb : ((rows.length : Int) != (rows'.length : Int)) = false := by rw [hlen]; simp
    have HL := Lib.hid hlen
    clear hlen
    go_enter Try.func24, Try.ntmps24
    go_wp2
    go_loopw [5] (fun i wr => ∃ k n : Nat, k ≤ rows.length ∧ i = .int .i64 k ∧ Hid (rows.take k = rows'.take k) ∧ Hid (wr = w.drewN n)) (fun i _ => rows.length - (intOf i).toNat)
    case atStart => exact ⟨0, 0, by omega, rfl, Lib.hid rfl, Lib.hid rfl⟩
    case round =>
      obtain ⟨k, n, hk, rfl, HT, HW⟩ := hrel
      have hbel : Below w.heap.size w wr := by rw [HW.out]; exact drew_below _ _ _
      by_cases hlt : k < rows.length
      · have hlt' : k < rows'.length := by have := HL.out; omega
        have hv : k < vs.length := by rw [HV.out]; exact hlt
        have hv' : k < vs'.length := by rw [HV'.out]; exact hlt'
        obtain ⟨b, off, rfl, _, hb1, hcell⟩ := HS.out.cells (by intro e; subst e; simp at hv)
        obtain ⟨b', off', rfl, _, hb1', hcell'⟩ := HS'.out.cells (by intro e; subst e; simp at hv')
        have key : ∀ (p : Addr), wr.cell? p = w.cell? p := fun p => by rw [HW.out]; rfl
        have hc1 : wr.cell? ⟨b, off + k, none⟩ = some vs[k] := by have h0 := hcell k hv; rw [key]; exact h0
        have hc2 : wr.cell? ⟨b', off' + k, none⟩ = some vs'[k] := by have h0 := hcell' k hv'; rw [key]; exact h0
        have s1 : Sl lo hi f8 wr vs[k] rows[k] := (HR.out k hlt hv).same (fun _ _ _ => by rw [HW.out]; rfl)
        have s2 : Sl lo' hi' f8 wr vs'[k] rows'[k] := (HR'.out k hlt' hv').same (fun _ _ _ => by rw [HW.out]; rfl)
        have i1 : (0 : Int) ≤ (k : Int) ∧ (k : Int) < (rows.length : Int) := by omega
        have i2 : (0 : Int) ≤ (k : Int) ∧ (k : Int) < (rows'.length : Int) := by omega
        obtain ⟨x, hx⟩ : ∃ x, x = vs[k] := ⟨_, rfl⟩
        obtain ⟨y, hy⟩ : ∃ y, y = vs'[k] := ⟨_, rfl⟩
        rw [← hx] at hc1 s1
        rw [← hy] at hc2 s2
        have HC := Lib.hid (same_any lo hi lo' hi' wr x y rows[k] rows'[k] s1 s2)
        have HS1 := Lib.hid s1
        have HS2 := Lib.hid s2
        obtain ⟨t, ht⟩ : ∃ t, t = sameB rows[k] rows'[k] := ⟨_, rfl⟩
        have HT2 := Lib.hid ht
        clear key hcell hcell' s1 s2 hx hy ht
        go_wp2
        go_quiet ((go_at_call 33; exact Calls.quiet_of (same_any lo hi lo' hi' (wr.drewN _) x y rows[k] rows'[k] (HS1.out.same (fun _ _ _ => rfl)) (HS2.out.same (fun _ _ _ => rfl)))))
        rw [← HT2.out]
        have HW2 : Hid (wr.drewN nq = w.drewN (n + nq)) := Lib.hid (by rw [HW.out, World.drewN_drewN])
        cases t with
        | false =>
          go_wp2
          go_ret
          refine ⟨?_, _, HW2.out⟩
          have e2 : rows[k] ≠ rows'[k] := by have := HT2.out; unfold sameB at this; simpa using this.symm
          have : sameR rows rows' = false := by
            unfold sameR; rw [decide_eq_false_iff_not]; intro e; subst e; exact e2 rfl
          rw [this]; rfl
        | true =>
          go_wp2
          go_roundw
          case rel =>
            have e2 : rows[k] = rows'[k] := by have := HT2.out; unfold sameB at this; simpa using this.symm
            exact ⟨k + 1, _, by omega, by go_num, Lib.hid (by rw [List.take_succ_eq_append_getElem hlt, List.take_succ_eq_append_getElem hlt', HT.out, e2]), HW2⟩
          case measure => simp [intOf]; omega
      · have e : k = rows.length := by omega
        subst e
        have e2 : rows = rows' := by
          have h1 := HT.out
          have h2 := HL.out
          rw [List.take_length, h2, List.take_length] at h1
          exact h1
        have e3 : sameR rows rows' = true := by unfold sameR; simp [e2]
        have E3 := Lib.hid e3
        clear e2 e3 HT HL
        go_wp2
        go_ret
        exact ⟨by rw [E3.out]; rfl, _, HW.out⟩
  · have hb : ((rows.length : Int) != (rows'.length : Int)) = true := by simp; omega
    have hs : sameR rows rows' = false := by
      unfold sameR; rw [decide_eq_false_iff_not]; intro e; subst e; exact hlen rfl
    rw [hs]
    clear hs hlen
    go_enter Try.func24, Try.ntmps24
    go_wp2
    go_ret
    exact ⟨rfl, 0, rfl⟩

theorem flat_take {α : Type} (l : List (List α)) (k : Nat) (h : k < l.length) : (l.take (k + 1)).flatten = (l.take k).flatten ++ l[k] := by
  rw [List.take_succ_eq_append_getElem h, List.flatten_append]; simp

/-- What much says. -/
def MuchP (rows0 : List (List UInt8)) (w : World) (e : Ending) (w' : World) : Prop := ∃ m : Bool, e = .returned (.bool m) ∧ (m = false → rows0.length + rows0.flatten.length ≤ 100000) ∧ w = w'
theorem much_any (lo hi : Nat) (w : World) (v0 : Value) (rows0 : List (List UInt8)) (w0 : Rws lo hi w v0 rows0) :
    Calls Try.prog 26 #[v0] w (MuchP rows0 w) := by
  obtain ⟨vs, hvl, ⟨ao, cap, rfl, hv⟩, hrows⟩ := w0
  have hl := hv.len
  rw [hvl] at hl
  rw [hvl]
  have HV := Lib.hid hv
  have HL := Lib.hid hvl
  have HR := Lib.hid hrows
  clear hv hvl hrows
  go_enter Try.func26, Try.ntmps26
  go_wp2
  go_loop [3, 4] (fun n i => ∃ k : Nat, k ≤ rows0.length ∧ i = .int .i64 k ∧ n = .int .i64 ((rows0.length + (rows0.take k).flatten.length : Nat) : Int) ∧ rows0.length + (rows0.take k).flatten.length ≤ 281474976710656) (fun _ i => rows0.length - (intOf i).toNat)
  case atStart => exact ⟨0, by omega, rfl, by simp, by simp; omega⟩
  case round =>
    obtain ⟨k, hk, rfl, rfl, hs⟩ := hrel
    generalize hS : rows0.length + (rows0.take k).flatten.length = S at *
    have HS := Lib.hid hS
    clear hS
    by_cases hlt : k < rows0.length
    · by_cases hb : S ≤ 100000
      · have hlt' : k < vs.length := by rw [HL.out]; exact hlt
        obtain ⟨b, off, rfl, _, _, hcell⟩ := HV.out.cells (by intro e; subst e; simp at hlt')
        obtain ⟨ar, capr, hvr, hsr⟩ := HR.out k hlt hlt'
        have hc1 : w.cell? ⟨b, off + k, none⟩ = some (.slice ar rows0[k].length capr) := by rw [hcell k hlt', hvr]; rfl
        have hlr := hsr.len
        clear hcell hvr hsr
        go_wp2
        go_round
        case rel =>
          refine ⟨k + 1, by omega, by go_num, ?_, ?_⟩
          · rw [flat_take _ _ hlt, List.length_append, ← Nat.add_assoc, HS.out]; go_num
          · rw [flat_take _ _ hlt, List.length_append, ← Nat.add_assoc, HS.out]; omega
        case measure => simp [intOf]; omega
      · have i3 : (100000 : Int) < (S : Int) := by omega
        go_wp2
        go_ret
        exact ⟨true, rfl, (fun h => by cases h), rfl⟩
    · have e : k = rows0.length := by omega
      subst e
      by_cases hb : S ≤ 100000
      · have i3 : ¬ (100000 : Int) < (S : Int) := by omega
        go_wp2
        go_ret
        exact ⟨false, rfl, (fun _ => by have := HS.out; rw [List.take_length] at this; omega), rfl⟩
      · have i3 : (100000 : Int) < (S : Int) := by omega
        go_wp2
        go_ret
        exact ⟨true, rfl, (fun h => by cases h), rfl⟩

theorem ORow.ones {w : World} {base : Nat} {v : Value} {vs : List Value} {rows : List (List UInt8)} (h : ORow w base v vs rows) : ∀ u ∈ vs.map fv, u.oneCell' = true := by
  intro u hu
  rw [map_fv] at hu
  obtain ⟨i, hi⟩ := List.getElem?_of_mem hu
  obtain ⟨r, _, h2⟩ := h.at hi
  obtain ⟨_, _, rfl⟩ := own_slice h2
  rfl
/-- Two lists of rows, one behind the other. -/
theorem ORow.cat {w w' : World} {base : Nat} {v v2 v' : Value} {vs vs2 : List Value} {rows rows2 : List (List UInt8)} (h : ORow w base v vs rows) (k : ORow w base v2 vs2 rows2) (hap : ∀ x ∈ vs, ∀ y ∈ vs2, ∀ b, x.ownBlock = some b → y.ownBlock ≠ some b)
    (hrow : w'.ownsRow base 23 1 v' (vs.length + vs2.length) (vs ++ vs2)) (g : w.grownBy w' v.ownBlock) : ORow w' base v' (vs ++ vs2) (rows ++ rows2) := by
  have key : ∀ (x : Value) n zs, w.ownsRow base 5 1 x n zs → w'.ownsRow base 5 1 x n zs := fun x n zs hx => hx.kept g (by
    rcases hvb : x.ownBlock with _ | q
    · exact .inl rfl
    · exact .inr (fun e1 => own_apart h.row hx (by decide) q e1.symm hvb))
  have at' : ∀ i x, (vs ++ vs2)[i]? = some x → (i < vs.length ∧ vs[i]? = some x) ∨ (vs.length ≤ i ∧ vs2[i - vs.length]? = some x) := by
    intro i x hx
    rcases Nat.lt_or_ge i vs.length with hi | hi
    · rw [List.getElem?_append_left hi] at hx; exact .inl ⟨hi, hx⟩
    · rw [List.getElem?_append_right hi] at hx; exact .inr ⟨hi, hx⟩
  refine ⟨by rw [List.length_append]; exact hrow, by simp [h.len, k.len], fun i x q hx hq => ?_, fun i j x y hx hy hij b hb => ?_⟩
  · rcases at' i x hx with ⟨hi, h1⟩ | ⟨hi, h1⟩
    · rw [List.getElem?_append_left (by rw [← h.len]; exact hi)] at hq
      exact key _ _ _ (h.each i x q h1 hq)
    · rw [List.getElem?_append_right (by rw [← h.len]; exact hi), ← h.len] at hq
      exact key _ _ _ (k.each _ x q h1 hq)
  · rcases at' i x hx with ⟨h0, h1⟩ | ⟨h0, h1⟩ <;> rcases at' j y hy with ⟨h2, h3⟩ | ⟨h2, h3⟩
    · exact h.apt i j x y h1 h3 hij b hb
    · exact hap x (List.mem_of_getElem? h1) y (List.mem_of_getElem? h3) b hb
    · intro e1; exact hap y (List.mem_of_getElem? h3) x (List.mem_of_getElem? h1) b e1 hb
    · exact k.apt _ _ x y h1 h3 (by omega) b hb

/-- A list of rows of which one has been laid anew. -/
theorem rws_set {w w' : World} {base B K n lo : Nat} {v vS x : Value} {vs : List Value} {rows : List (List UInt8)} {X : List UInt8} (h : ORow w base v vs rows) (hb : Below B w w') (hB : w.heap.size ≤ B) (hlo : lo ≤ base) (hS : w'.ownsRow lo 23 1 vS n (vs.set K x)) (hn : vs.length = n) (hx : Sl lo w'.heap.size f8 w' x X) (hn2 : n ≤ 140737488355328) (hr : ∀ r ∈ rows, r.length ≤ 140737488355328) :
    Rws lo w'.heap.size w' vS (rows.set K X) := by
  subst hn
  have h' := h.below hb hB
  refine ⟨vs.set K x, by simp [h.len], Sl.owns (f := fv) (by rw [map_fv, List.length_set]; exact hS) (by rw [List.length_set]; exact hn2), fun r h1 h2 => ?_⟩
  rw [List.getElem_set, List.getElem_set]
  by_cases e : K = r
  · subst e
    simp only [if_true]
    exact hx
  · rw [if_neg e, if_neg e]
    have h1' : r < rows.length := by simpa using h1
    have h2' : r < vs.length := by simpa using h2
    exact (Sl.owns (h'.each r _ _ (List.getElem?_eq_getElem h2') (List.getElem?_eq_getElem h1')) (hr _ (List.getElem_mem h1'))).mono hlo (Nat.le_refl _)

/-- Rows that came in, in a list of the call's own. -/
structure Rec (w0 w : World) (base : Nat) (v : Value) (vs : List Value) (rows : List (List UInt8)) : Prop where
  row : w.ownsRow base 23 1 v vs.length vs
  len : vs.length = rows.length
  each : ∀ (i : Nat) (u : Value) (r : List UInt8), vs[i]? = some u → rows[i]? = some r → Sl 0 w0.heap.size f8 w0 u r
theorem Rec.nil (w0 w : World) (base : Nat) : Rec w0 w base (.slice none 0 0) [] [] := ⟨World.ownsRow_nil _ _ _ _, rfl, fun i u r h => by simp at h⟩
theorem Rec.kept {w0 w w' : World} {base : Nat} {v : Value} {vs : List Value} {rows : List (List UInt8)} (h : Rec w0 w base v vs rows) {b : Option Nat} (g : w.grownBy w' b) (hne : v.ownBlock = none ∨ v.ownBlock ≠ b) : Rec w0 w' base v vs rows := ⟨h.row.kept g hne, h.len, h.each⟩
theorem Rec.below {w0 w w' : World} {base B : Nat} {v : Value} {vs : List Value} {rows : List (List UInt8)} (h : Rec w0 w base v vs rows) (hb : Below B w w') (hB : w.heap.size ≤ B) : Rec w0 w' base v vs rows := ⟨own_below h.row hb hB, h.len, h.each⟩
theorem Rec.snoc {w0 w w' : World} {base : Nat} {v v' u : Value} {vs : List Value} {rows : List (List UInt8)} {r : List UInt8} (h : Rec w0 w base v vs rows) (hu : Sl 0 w0.heap.size f8 w0 u r) (hrow : w'.ownsRow base 23 1 v' (vs.length + 1) (vs ++ [u])) : Rec w0 w' base v' (vs ++ [u]) (rows ++ [r]) := by
  refine ⟨by simpa using hrow, by simp [h.len], fun i x q hx hq => ?_⟩
  rcases Nat.lt_trichotomy i vs.length with hi | hi | hi
  · rw [List.getElem?_append_left hi] at hx
    rw [List.getElem?_append_left (by rw [← h.len]; exact hi)] at hq
    exact h.each i x q hx hq
  · subst hi
    rw [List.getElem?_append_right (Nat.le_refl _), Nat.sub_self] at hx
    rw [h.len, List.getElem?_append_right (Nat.le_refl _), Nat.sub_self] at hq
    simp at hx hq
    subst hx hq
    exact hu
  · rw [List.getElem?_eq_none (by simp; omega)] at hx; cases hx
theorem Rec.ones {w0 w : World} {base : Nat} {v : Value} {vs : List Value} {rows : List (List UInt8)} (h : Rec w0 w base v vs rows) : ∀ u ∈ vs, u.oneCell' = true := by
  intro u hu
  obtain ⟨i, hi⟩ := List.getElem?_of_mem hu
  have hi' : i < rows.length := by rw [← h.len]; exact (List.getElem?_eq_some_iff.1 hi).1
  obtain ⟨_, _, rfl, _⟩ := h.each i u _ hi (List.getElem?_eq_getElem hi')
  rfl
theorem Rec.rws {w0 w : World} {base : Nat} {v : Value} {vs : List Value} {rows : List (List UInt8)} (h : Rec w0 w base v vs rows) (hb : Below w0.heap.size w0 w) (hn : rows.length ≤ 140737488355328) : Rws 0 w.heap.size w v rows := by
  refine ⟨vs, h.len, (Sl.owns (f := fv) (by rw [map_fv]; exact h.row) (by rw [h.len]; exact hn)).mono (Nat.zero_le _) (Nat.le_refl _), fun r h1 h2 => ?_⟩
  exact ((h.each r _ _ (List.getElem?_eq_getElem h2) (List.getElem?_eq_getElem h1)).below hb (Nat.le_refl _)).mono (Nat.le_refl _) hb.size
/-- The first of them, as a slice of them. -/
theorem Rec.first {w0 w : World} {base g n m cap : Nat} {vs : List Value} {rows : List (List UInt8)} (h : Rec w0 w base (.slice (some ⟨g, 0, none⟩) n cap) vs rows) (hn : vs.length = n) (hm : m ≤ n) : Rec w0 w base (.slice (some ⟨g, 0, none⟩) m cap) (vs.take m) (rows.take m) := by
  subst hn
  have hr := h.row
  obtain ⟨d, hd⟩ : ∃ d, vs.length = m + d := ⟨vs.length - m, by omega⟩
  rw [hd] at hr
  have := own_prefix hr
  refine ⟨by rw [List.length_take, Nat.min_eq_left hm]; exact this, by rw [List.length_take, List.length_take, h.len], fun i u r hu hr => ?_⟩
  rw [List.getElem?_take] at hu hr
  by_cases hi : i < m
  · rw [if_pos hi] at hu hr; exact h.each i u r hu hr
  · rw [if_neg hi] at hu; cases hu
/-- An integer's cell. -/
def fi (n : Nat) : Value := .int .i64 (n : Int)
end Go.Proofs.Ytckmeomhcikmoaa
