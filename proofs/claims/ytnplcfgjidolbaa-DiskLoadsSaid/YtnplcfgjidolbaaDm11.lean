/- From a slice's reading as the row has it to its bytes. An argument that is a row of calls. BitsOne: the walk. BitsBack: the plain law. The document's bits: how they are put. -/
import Derived.Test.YtnplcfgjidolbaaDm10
import Derived.ProofKit
import Derived.OpenShut
import Derived.Deep.Slices
import Derived.Deep.Fields
import Derived.ChangeSame
import Derived.Deep.RegionHeld3
import Derived.Deep.OwnRows
import Derived.Outline
import Derived.RegionTactic
import Derived.BigRegion
section
namespace Go.Proofs.Ytnplcfgjidolbaa
open Go.RowKit

/-- What the walk is told of a slice of integers that came in. -/
def IsRow (k : IntKind) (w : World) (a : Option Addr) (len cap : Nat) (zs : List Int) : Prop :=
  (a = none ∧ len = 0 ∧ cap = 0 ∧ zs = []) ∨
  ∃ x, a = some x ∧ len ≤ cap ∧ cap ≤ maxLen ∧ zs.length = cap ∧ (∀ i, i < zs.length → w.cell? (x.add i) = some (.int k (zs.getD i 0))) ∧ ∀ n ∈ zs, (Lit.int k n).wf = true

theorem of_wf8 {z : Int} (h : (Lit.int .u8 z).wf = true) : W8 (UInt8.ofNat z.toNat) = z := by
  have h1 : 0 ≤ z ∧ z ≤ 255 := by
    have := h; simp [Lit.wf, IntKind.min, IntKind.max, IntKind.signed, IntKind.bits] at this; omega
  unfold W8
  rw [UInt8.toNat_ofNat']
  omega
theorem of_wf32 {z : Int} (h : (Lit.int .u32 z).wf = true) : ∃ s : BitVec 32, z = W32 s := by
  have h1 : 0 ≤ z ∧ z ≤ 4294967295 := by
    have := h; simp [Lit.wf, IntKind.min, IntKind.max, IntKind.signed, IntKind.bits] at this; omega
  refine ⟨BitVec.ofNat 32 z.toNat, ?_⟩
  unfold W32
  rw [BitVec.toNat_ofNat]
  omega

theorem IsRow.sl {w : World} {a : Option Addr} {len cap : Nat} {zs : List Int} (h : IsRow .u8 w a len cap zs) (hlen : len ≤ 140737488355328) :
    ∃ l : List UInt8, l.length = len ∧ SlC 0 w.heap.size f8 w a cap l := by
  rcases h with ⟨rfl, rfl, rfl, rfl⟩ | ⟨x, rfl, hlc, hm, hz, hcell, hwf⟩
  · exact ⟨[], rfl, by simp, fun _ => rfl, fun h => absurd rfl h, by simp⟩
  · refine ⟨(zs.take len).map (fun z => UInt8.ofNat z.toNat), by simp; omega, by simp; omega, (fun h => by cases h), fun hne => ?_, by simp; omega⟩
    have h0 : 0 < zs.length := by
      rcases Nat.eq_zero_or_pos zs.length with h | h
      · rw [List.length_eq_zero_iff] at h; subst h; simp at hne
      · exact h
    obtain ⟨b, off, rfl, hc⟩ := ints_at hcell h0
    refine ⟨b, off, rfl, Nat.zero_le _, block_lt_of_cell (hc 0 h0), fun j hj => ?_⟩
    have hj' : j < zs.length := by simp at hj; omega
    rw [hc j hj']
    have e : zs.getD j 0 = zs[j] := by simp [List.getD, hj']
    rw [e]
    simp only [List.getElem_map, List.getElem_take, f8]
    rw [of_wf8 (hwf _ (List.getElem_mem hj'))]
end Go.Proofs.Ytnplcfgjidolbaa
end
section
namespace Go.Proofs.Ytnplcfgjidolbaa
open Go.RowKit Go.ChangeShapes Go.WideShapes

/-- A call: its kind, its number, its width. -/
structure Opv where
  k : Nat
  v : Nat
  n : Int

/-- A call's three cells. -/
structure OpAt (w : World) (b o : Nat) (x : Opv) : Prop where
  c0 : w.cell? ⟨b, o, none⟩ = some (.int .u8 (x.k : Int))
  c1 : w.cell? ⟨b, o + 1, none⟩ = some (.int .u64 (x.v : Int))
  c2 : w.cell? ⟨b, o + 2, none⟩ = some (.int .i64 x.n)
  k : x.k < 256
  v : x.v < 18446744073709551616
  n : -9223372036854775808 ≤ x.n ∧ x.n ≤ 9223372036854775807

/-- The slice v has the calls l. -/
structure Ops (hi : Nat) (w : World) (ao : Option Addr) (cap : Nat) (l : List Opv) : Prop where
  len : l.length ≤ maxLen
  cells : l ≠ [] → ∃ b off, ao = some ⟨b, off, none⟩ ∧ b < hi ∧ ∀ j (h : j < l.length), OpAt w b (off + j * 3) l[j]

theorem Ops.below {hi B : Nat} {w w' : World} {ao : Option Addr} {cap : Nat} {l : List Opv} (h : Ops hi w ao cap l) (hb : Below B w w') (hh : hi ≤ B) : Ops hi w' ao cap l := by
  refine ⟨h.len, fun hne => ?_⟩
  obtain ⟨b, off, h1, h2, h3⟩ := h.cells hne
  refine ⟨b, off, h1, h2, fun j hj => ?_⟩
  have q := h3 j hj
  have e : w'.heap[b]? = w.heap[b]? := hb.block b (by omega)
  have ec : ∀ o, w'.cell? ⟨b, o, none⟩ = w.cell? ⟨b, o, none⟩ := fun o => World.cell?_of_block e
  exact ⟨(ec _).trans q.c0, (ec _).trans q.c1, (ec _).trans q.c2, q.k, q.v, q.n⟩

def fieldsOf (P : Program) (t : TypeId) : Option (List (TypeId × Nat)) := match P.underlying t with | some (.struct fs) => some (fs.toList.map fun f => (f.type, f.offset)) | _ => none
theorem fields_of {P : Program} {t : TypeId} {l : List (TypeId × Nat)} (h : fieldsOf P t = some l) : ∃ fs, P.underlying t = some (.struct fs) ∧ fs.toList.map (fun f => (f.type, f.offset)) = l := by
  unfold fieldsOf at h
  split at h
  · next fs e => exact ⟨fs, e, by injection h⟩
  · cases h
theorem fields79 : fieldsOf Try.prog 79 = some [(5, 0), (23, 1), (3, 2)] := by kernel_rfl

set_option maxRecDepth 100000 in
theorem open_ops {H : Type} {enc : TypeId × Value → H} {w : World} {spare : Nat → Bool} {held : Bool} {fuel : Nat} {v : Value} {x : DataW H × List MemPlace} (h : DataW.trod enc Try.prog w 0 spare held fuel 38 [v] = some x) :
    ∃ ao cap l, v = .slice ao l.length cap ∧ Ops w.heap.size w ao cap l := by
  rcases Go.Deep.open_slice Try.underlying38 h with ⟨h0, _⟩ | ⟨a, len, cap, m, n, D, Pl, hcs, hb, hl, hm, hmm, hx, hi⟩
  · injection h0 with h0 _
    exact ⟨none, 0, [], h0, by simp, fun h => absurd rfl h⟩
  · injection hcs with hcs _
    obtain ⟨fs, hs, hf⟩ := fields_of fields79
    have hC : Try.prog.cellsOf 79 = 3 := by kernel_rfl
    have hone5 : Try.prog.cellsOf 5 = 1 := by kernel_rfl
    have hone23 : Try.prog.cellsOf 23 = 1 := by kernel_rfl
    have hone3 : Try.prog.cellsOf 3 = 1 := by kernel_rfl
    have hlm : len ≤ m := by rw [hmm]; split <;> omega
    have hspot : 0 < len → a.spot = none := by
      intro hp
      obtain ⟨cs', hc, ht⟩ := hi 0 (by omega)
      rw [hC] at hc
      obtain ⟨_, hcl, hat⟩ := World.cells?_some hc
      match cs', hcl with
      | [x0, x1, x2], _ =>
      have := World.cell?_spot (hat 0 (by omega))
      simpa [Addr.add] using this
    have key : ∀ i, i < len → ∃ o : Opv, a.spot = none ∧ OpAt w a.block (a.off + i * 3) o := by
      intro i hi'
      obtain ⟨cs', hc, ht⟩ := hi i (by omega)
      rw [hC] at hc
      obtain ⟨_, hcl, hat⟩ := World.cells?_some hc
      obtain ⟨ys, n', hn', hy, hlen, hyl, hff⟩ := DataW.trod_struct hs ht
      match cs', hcl with
      | [x0, x1, x2], _ =>
      match fs, hf with
      | ⟨[f0, f1, f2]⟩, hf =>
      simp at hf
      obtain ⟨⟨t0, o0⟩, ⟨t1, o1⟩, ⟨t2, o2⟩⟩ := hf
      match ys, hyl with
      | [y0, y1, y2], _ =>
      have g0 := hff 0 f0 rfl
      have g1 := hff 1 f1 rfl
      have g2 := hff 2 f2 rfl
      rw [t0, o0, hone5] at g0
      rw [t1, o1, hone23] at g1
      rw [t2, o2, hone3] at g2
      obtain ⟨n0, e0, _, w0⟩ := DataW.trod_int Try.underlying5 g0
      obtain ⟨n1, e1, _, w1⟩ := DataW.trod_int Try.underlying23 g1
      obtain ⟨n2, e2, _, w2⟩ := DataW.trod_int Try.underlying3 g2
      have p0 : x0 = .int .u8 n0 := by simpa using e0
      have p1 : x1 = .int .u64 n1 := by simpa using e1
      have p2 : x2 = .int .i64 n2 := by simpa using e2
      clear e0 e1 e2
      subst p0 p1 p2
      have q0 := hat 0 (by omega)
      have q1 := hat 1 (by omega)
      have q2 := hat 2 (by omega)
      have hsp := hspot (by omega)
      obtain ⟨b, off, sp⟩ := a
      obtain rfl : sp = none := hsp
      simp only [add_plain] at q0 q1 q2
      have h1 : 0 ≤ n0 ∧ n0 ≤ 255 := by have := w0; simp [Lit.wf, IntKind.min, IntKind.max, IntKind.signed, IntKind.bits] at this; omega
      have h2 : 0 ≤ n1 ∧ n1 < 18446744073709551616 := by have := w1; simp [Lit.wf, IntKind.min, IntKind.max, IntKind.signed, IntKind.bits] at this; omega
      have h3 : -9223372036854775808 ≤ n2 ∧ n2 ≤ 9223372036854775807 := by have := w2; simp [Lit.wf, IntKind.min, IntKind.max, IntKind.signed, IntKind.bits] at this; omega
      obtain ⟨m0, rfl⟩ := Int.eq_ofNat_of_zero_le h1.1
      obtain ⟨m1, rfl⟩ := Int.eq_ofNat_of_zero_le h2.1
      exact ⟨⟨m0, m1, n2⟩, rfl, q0, q1, q2, by simp; omega, by simp; omega, h3⟩
    have hall : ∃ l : List Opv, l.length = len ∧ ∀ j (hj : j < l.length), a.spot = none ∧ OpAt w a.block (a.off + j * 3) l[j] := by
      refine ⟨List.ofFn (fun j : Fin len => (key j.val j.isLt).choose), by simp, fun j hj => ?_⟩
      rw [List.getElem_ofFn]
      exact (key j (by simpa using hj)).choose_spec
    obtain ⟨l, hl1, hl2⟩ := hall
    refine ⟨some a, cap, l, by rw [hl1]; exact hcs, by omega, fun hne => ?_⟩
    have hp : 0 < l.length := List.length_pos_iff.2 hne
    obtain ⟨b, off, sp⟩ := a
    obtain rfl : sp = none := (hl2 0 hp).1
    exact ⟨b, off, rfl, block_lt_of_cell (hl2 0 hp).2.c0, fun j hj => (hl2 j hj).2⟩
end Go.Proofs.Ytnplcfgjidolbaa
end
section
namespace Go.Proofs.Ytnplcfgjidolbaa
open Go.RowKit
theorem Wr.below {w w' : World} {B N : Nat} {r : Option Nat} {L : List Bool} (h : Wr w B r L) (hb : Below N w w') (hN : w.heap.size ≤ N) : Wr w' B r L := by
  obtain ⟨⟨v, h1, h2, h3⟩, hne⟩ := h
  have hlt : ∀ k o, w.heap[k]? = some o → k < w.heap.size := fun k o hk => by
    rcases Nat.lt_or_ge k w.heap.size with h | h
    · exact h
    · rw [Array.getElem?_eq_none h] at hk; cases hk
  refine ⟨⟨v, by rw [hb.block _ (Nat.lt_of_lt_of_le (hlt _ _ h1) hN)]; exact h1, own_of_same h2 (fun k hk => ?_), h3⟩, hne⟩
  obtain ⟨_, ⟨rfl, _⟩ | ⟨g, cap, cur, rfl, e1, e2, _⟩⟩ := h2
  · cases hk
  · cases hk
    exact hb.block _ (Nat.lt_of_lt_of_le (hlt _ _ e2) hN)
theorem Wr.gro {w w' : World} {B p : Nat} {r r' : Option Nat} {L : List Bool} (h : Wr w B r L) (g : Gro p r' w w') (h1 : B ≠ p) (h2 : some B ≠ r') (h3 : ∀ k, r = some k → k ≠ p ∧ some k ≠ r') : Wr w' B r L := by
  obtain ⟨⟨v, e1, e2, e3⟩, hne⟩ := h
  have hlt : ∀ k o, w.heap[k]? = some o → k < w.heap.size := fun k o hk => by
    rcases Nat.lt_or_ge k w.heap.size with h | h
    · exact h
    · rw [Array.getElem?_eq_none h] at hk; cases hk
  refine ⟨⟨v, by rw [g.block _ (hlt _ _ e1) h1 h2]; exact e1, own_of_same e2 (fun k hk => ?_), e3⟩, hne⟩
  have hk2 := h3 k (e3.symm.trans hk)
  obtain ⟨_, ⟨rfl, _⟩ | ⟨g', cap, cur, rfl, e4, e5, _⟩⟩ := e2
  · cases hk
  · cases hk
    exact g.block _ (hlt _ _ e5) hk2.1 hk2.2
end Go.Proofs.Ytnplcfgjidolbaa
namespace Go.Proofs.Ytnplcfgjidolbaa.bitsOne
open Go.RowKit
theorem take_sl {lo hi : Nat} {w : World} {ao : Option Addr} {cap : Nat} {l : List UInt8} (h : SlC lo hi f8 w ao cap l) (k : Nat) (hk : k ≤ l.length) : Sl lo hi f8 w (.slice ao k cap) (l.take k) := by
  have e : (l.take k).length = k := by rw [List.length_take]; omega
  refine ⟨ao, cap, by rw [e], by have := h.len; omega, h.nn, fun hne => ?_, by have := h.le; omega⟩
  obtain ⟨b, off, h1, h2, h3, h4⟩ := h.cells (fun e2 => hne (by subst e2; simp))
  exact ⟨b, off, h1, h2, h3, fun j hj => by rw [List.getElem_take]; exact h4 j (by omega)⟩

theorem sameB_refl (l : List UInt8) : sameB l l = true := by simp [sameB]

theorem rvg_err (U : List Bool) (f : Nat) : ∀ i a acc er, Bt.rvg U f i a acc = .inl er → er = 20 ∨ er = 21 := by
  induction f with
  | zero => intro i a acc er h; simp [Bt.rvg] at h; exact Or.inr h.symm
  | succ f ih =>
    intro i a acc er h
    rw [Bt.rvg] at h
    split at h
    · cases h; exact Or.inl rfl
    · split at h
      · cases h; exact Or.inr rfl
      · split at h
        · split at h
          · cases h; exact Or.inr rfl
          · cases h
        · exact ih _ _ _ _ h

set_option maxRecDepth 100000 in
theorem walk' (v0 : Value) (l0 : List UInt8) (n1 n2 : Nat) (w : World) (w0 : Sl 0 w.heap.size f8 w v0 l0) (h1 : n1 < 18446744073709551616) (h2 : n2 < 18446744073709551616) :
    Calls Try.prog 3 #[v0, .int .u64 n1, .int .u64 n2] w fun e w' => e = .returned (.bool true) ∧ Below w.heap.size w w' := by
  obtain ⟨ao, cap, rfl, hs⟩ := w0
  have hlen := hs.len
  have HS := Lib.hid hs
  clear hs
  by_cases hbig : 100000 < l0.length
  · go_enter Try.func3, Try.ntmps3
    go_wp2_with (first
      | (go_at_call 10; refine (known_any _).mono ?_; rintro e w1 ⟨rfl, hb1⟩))
    go_ret
    exact ⟨rfl, hb1⟩
  · cases hr : Bt.rv (Bt.unpack l0) 0 with
    | inl er => 
      have HR := Lib.hid hr
      have h20 : ((er : Int) == 0) = false := by
        rcases rvg_err _ _ _ _ _ _ hr with rfl | rfl <;> rfl
      clear hr
      go_enter Try.func3, Try.ntmps3
      go_wp2_with (first
        | (go_at_call 10; refine (known_any _).mono ?_; rintro e w1 ⟨rfl, hb1⟩)
        | (go_at_call 11; refine (read_any _ _ w1 _ l0 ⟨_, cap, rfl, HS.out.same (Same.ofBelow hb1 _ _ (Nat.le_refl _))⟩ hb1.size).mono ?_; rintro e w2 ⟨B, v, hi, rfl, hB, hR2, hb2, hh2, hl2⟩; have HR2 := Lib.hid hR2; clear hR2)
        | (go_at_call 12; refine Calls.mono (by have q := rvarint_any _ _ w2 B 0 v l0 HR2.out hh2; rw [HR.out] at q; exact q) ?_; rintro e w3 ⟨rfl, hR3, hg3⟩; have HR3 := Lib.hid hR3; clear hR3)
        | (go_at_call 13; refine (left_any _ _ w3 B 0 v l0 HR3.out).mono ?_; rintro e w8 ⟨rfl, m, hw8⟩; have s4 : Below w3.heap.size w3 w8 := (by rw [hw8]; exact ⟨rfl, rfl, rfl, Nat.le_refl _, fun _ _ => rfl⟩); clear hw8)
        | (go_at_call 14; fail))
      have k5 : Below w.heap.size w w3 := ((hb1.trans (hb2.mono hb1.size)).trans (hg3.below (by have := hb1.size; have := hb2.size; omega) (by have := hb1.size; omega) (by simp)))
      have hw8b : Below w.heap.size w w8 := k5.trans (s4.mono k5.size)
      clear k5 s4 hb1 hb2 hg3
      have L0 : ([] : List Bool).length < 1099511627000 := by decide
      have M1 : n1 ≤ n2 → (Bt.vb n1).length ≤ (Bt.vb n2).length := Bt.vb_mono n1 n2
      have M2 : n2 ≤ n1 → (Bt.vb n2).length ≤ (Bt.vb n1).length := Bt.vb_mono n2 n1
      have M3 : decide (((Bt.vb n1).length : Int) ≤ 80) = true := by have := (Bt.vb_le n1 h1).1; simp; omega
      have M4 : decide (((Bt.vb n2).length : Int) ≤ 80) = true := by have := (Bt.vb_le n2 h2).1; simp; omega
      rcases Nat.le_total n1 n2 with hmm | hmm
      all_goals
        first | (have M1 := M1 hmm; clear M2) | (have M2 := M2 hmm; clear M1)
        go_wp2_with (first
          | (go_at_call 14; have _ := HX.out; refine (new2_any _).mono ?_; rintro e wy ⟨rfl, hWy, hby, hsy⟩; have HY := Lib.hid hWy; have HX2 := Lib.hid (HX.out.below hby (Nat.le_refl _)); have HSY := Lib.hid hsy; clear hWy hsy)
          | (go_at_call 14; refine (new2_any _).mono ?_; rintro e wx ⟨rfl, hWx, hbx, hsx⟩; have HX := Lib.hid hWx; have HSX := Lib.hid hsx; clear hWx hsx)
          | (go_at_call 15; have _ := HX3.out; refine Calls.mono (by with_reducible first | exact varint_any _ _ _ [] n1 HY3.out L0 h1 | exact varint_any _ _ _ [] n2 HY3.out L0 h2) ?_; rintro e w2x ⟨rfl, r2x, hWy2, hgy2, hny2⟩; have HY4 := Lib.hid hWy2; have HG4 := Lib.hid hgy2; have HX4 := Lib.hid (HX3.out.gro hgy2 (by have := HSX.out; omega) (by simp) (fun k hk => by have q1 := hnx2 k hk; have q2 := HSY.out; simp at q1; exact ⟨by omega, by simp⟩)); clear hWy2 hgy2)
          | (go_at_call 15; refine Calls.mono (by with_reducible first | exact varint_any _ _ _ [] n1 HX2.out L0 h1 | exact varint_any _ _ _ [] n2 HX2.out L0 h2) ?_; rintro e w1x ⟨rfl, r1x, hWx2, hgx2, hnx2⟩; have HX3 := Lib.hid hWx2; have HY3 := Lib.hid (HY.out.gro hgx2 (by have := HSX.out; omega) (by simp) (by simp)); have HG3 := Lib.hid hgx2; clear hWx2 hgx2)
          | (go_at_call 18; refine Calls.mono (by with_reducible exact len_any _ _ _ _ HY4.out) ?_; rintro e wz ⟨rfl, rfl⟩)
          | (go_at_call 18; refine Calls.mono (by with_reducible exact len_any _ _ _ _ HX4.out) ?_; rintro e wz ⟨rfl, rfl⟩))
        all_goals
          go_ret
          refine ⟨rfl, ?_⟩
          have z1 : Below w.heap.size w w8 := hw8b
          have z2 := z1.size
          have z3 := HSX.out
          have z4 := HSY.out
          have z5 : Below w.heap.size w wy := (z1.trans (hbx.mono z2)).trans (hby.mono (by omega))
          have z6 := HG3.out.below (B := w.heap.size) (by omega) (by omega) (by simp)
          have z7 := HG4.out.below (B := w.heap.size) (by have := z6.size; omega) (by omega) (by simp)
          exact (z5.trans z6).trans z7
    | inr p =>
      obtain ⟨x, a'⟩ := p
      obtain ⟨q1, q2, q3, q4, q5⟩ := Bt.rv_ok hr
      obtain ⟨n, rfl⟩ : ∃ n, a' = 8 * n := ⟨a' / 8, by omega⟩
      rw [Bt.unpack_len] at q3
      have q6 : Bt.pack (Bt.vb x) = l0.take n := by
        rw [← q4, List.drop_zero, Nat.sub_zero]; exact Bt.pack_take_unpack l0 n (by omega)
      have HR := Lib.hid hr
      have Q6 := Lib.hid q6
      have q7 : ((8 * (l0.length : Int) - (8 * (l0.length : Int) - 8 * (n : Int))) / 8) = (n : Int) := by omega
      have g1 : decide ((n : Int) < 1) = false := by simp; omega
      have g2 : decide ((l0.length : Int) < (n : Int)) = false := by simp; omega
      have g3 : decide (l0.length < n) = false := by simp; omega
      obtain ⟨b, off, rfl, -, -, -⟩ := HS.out.cells (by intro e; subst e; simp at q3; omega)
      have b1 : (0 : Int) ≤ (n : Int) := by omega
      have b3 : n ≤ cap := Nat.le_trans (by omega) HS.out.le
      have b2 : (n : Int) ≤ (cap : Int) := by omega
      clear hr q4 q5 q6
      go_enter Try.func3, Try.ntmps3
      go_wp2_with (first
        | (go_at_call 10; refine (known_any _).mono ?_; rintro e w1 ⟨rfl, hb1⟩)
        | (go_at_call 11; refine (read_any _ _ w1 _ l0 ⟨_, cap, rfl, HS.out.same (Same.ofBelow hb1 _ _ (Nat.le_refl _))⟩ hb1.size).mono ?_; rintro e w2 ⟨B, v, hi, rfl, hB, hR2, hb2, hh2, hl2⟩; have HR2 := Lib.hid hR2; clear hR2)
        | (go_at_call 12; refine Calls.mono (by have q := rvarint_any _ _ w2 B 0 v l0 HR2.out hh2; rw [HR.out] at q; exact q) ?_; rintro e w3 ⟨rfl, hR3, hg3⟩; have HR3 := Lib.hid hR3; clear hR3)
        | (go_at_call 13; refine (left_any _ _ w3 B (8 * n) v l0 HR3.out).mono ?_; rintro e w4 ⟨rfl, m, rfl⟩)
        | (go_at_call 14; refine (new2_any _).mono ?_; rintro e w5 ⟨rfl, hW5, hb5, hs5⟩; have HW5 := Lib.hid hW5; clear hW5)
        | (go_at_call 15; refine Calls.mono (by exact varint_new (w3.drewN m).heap.size w5 (w3.drewN m).heap.size none [] x HW5.out (by decide) q1 (by simp) (Nat.le_refl _) (by omega)) ?_; rintro e w6 ⟨rfl, r6, hW6, hb6, hr6⟩; have HW6 := Lib.hid hW6; clear hW6))
      have HB : ∀ wx, Below w6.heap.size w6 wx → Calls Try.prog 17 #[.pointer (some ⟨w3.heap.size, 0, none⟩)] wx (fun e w' => ∃ v', e = .returned v' ∧ Sl wx.heap.size w'.heap.size f8 w' v' (l0.take n) ∧ Below wx.heap.size wx w' ∧ Below w6.heap.size w6 w') := fun wx hx => by
        refine (bytes_sl wx _ r6 _ (HW6.out.below hx (Nat.le_refl _)) (by have := Bt.vb_le x q1; simp; omega)).mono ?_
        rintro e w' ⟨v', rfl, h3, h4⟩
        rw [List.nil_append, Q6.out] at h3
        exact ⟨v', rfl, h3, h4, hx.trans (h4.mono hx.size)⟩
      have HB := Lib.hid HB
      have k5 : Below w.heap.size w w3 := ((hb1.trans (hb2.mono hb1.size)).trans (hg3.below (by have := hb1.size; have := hb2.size; omega) (by have := hb1.size; omega) (by simp)))
      have k6 : Below w.heap.size w w6 := by
        have h5 := hb5.trans hb6
        have h6 := h5.mono (B' := w.heap.size) (by have := k5.size; exact this)
        exact ⟨h6.os.trans k5.os, h6.tape.trans k5.tape, h6.output.trans k5.output, Nat.le_trans k5.size h6.size, fun k hk => (h6.block k hk).trans (k5.block k hk)⟩
      have HK6 := Lib.hid k6
      have HT : ∀ wx, Below w6.heap.size w6 wx → Sl 0 w.heap.size f8 wx (.slice (some ⟨b, off, none⟩) n cap) (l0.take n) := fun wx hx =>
        (take_sl HS.out n (by omega)).same ((Same.ofBelow k6 _ _ (Nat.le_refl _)).trans (Same.ofBelow (hx.mono k6.size) _ _ (Nat.le_refl _)))
      have HT := Lib.hid HT
      have s0 : Below w6.heap.size w6 w6.drew := ⟨rfl, rfl, rfl, Nat.le_refl _, fun _ _ => rfl⟩
      go_region_held3 (fun w' => Below w6.heap.size w6 w') (first | assumption | (exact Below.alloc (by assumption) (Below.size (by assumption)) _)) (first
        | (go_at_call 17; with_reducible refine Calls.mono (HB.out _ ?_) ?_; (first | assumption | exact Below.alloc (by assumption) (Below.size (by assumption)) _); rintro e w7 ⟨v7, rfl, hs7, hb7, s7⟩)
        | (go_at_call 16; refine (same_any _ _ _ _ _ v7 _ (l0.take n) (l0.take n) hs7 (HT.out _ (by assumption))).mono ?_; rintro e w8 ⟨rfl, m8, hw8⟩; rw [sameB_refl]; have s8 : Below w6.heap.size w6 w8 := (by rw [hw8]; exact ⟨s7.os, s7.tape, s7.output, s7.size, s7.block⟩); clear hw8))
      all_goals
        have hw8b : Below w.heap.size w w8 := HK6.out.trans (s8.mono HK6.out.size)
        have L0 : ([] : List Bool).length < 1099511627000 := by decide
        have M1 : n1 ≤ n2 → (Bt.vb n1).length ≤ (Bt.vb n2).length := Bt.vb_mono n1 n2
        have M2 : n2 ≤ n1 → (Bt.vb n2).length ≤ (Bt.vb n1).length := Bt.vb_mono n2 n1
        have M3 : decide (((Bt.vb n1).length : Int) ≤ 80) = true := by have := (Bt.vb_le n1 h1).1; simp; omega
        have M4 : decide (((Bt.vb n2).length : Int) ≤ 80) = true := by have := (Bt.vb_le n2 h2).1; simp; omega
        rcases Nat.le_total n1 n2 with hmm | hmm
        all_goals
          first | (have M1 := M1 hmm; clear M2) | (have M2 := M2 hmm; clear M1)
          go_wp2_with (first
            | (go_at_call 14; have _ := HX.out; refine (new2_any _).mono ?_; rintro e wy ⟨rfl, hWy, hby, hsy⟩; have HY := Lib.hid hWy; have HX2 := Lib.hid (HX.out.below hby (Nat.le_refl _)); have HSY := Lib.hid hsy; clear hWy hsy)
            | (go_at_call 14; refine (new2_any _).mono ?_; rintro e wx ⟨rfl, hWx, hbx, hsx⟩; have HX := Lib.hid hWx; have HSX := Lib.hid hsx; clear hWx hsx)
            | (go_at_call 15; have _ := HX3.out; refine Calls.mono (by with_reducible first | exact varint_any _ _ _ [] n1 HY3.out L0 h1 | exact varint_any _ _ _ [] n2 HY3.out L0 h2) ?_; rintro e w2x ⟨rfl, r2x, hWy2, hgy2, hny2⟩; have HY4 := Lib.hid hWy2; have HG4 := Lib.hid hgy2; have HX4 := Lib.hid (HX3.out.gro hgy2 (by have := HSX.out; omega) (by simp) (fun k hk => by have q1 := hnx2 k hk; have q2 := HSY.out; simp at q1; exact ⟨by omega, by simp⟩)); clear hWy2 hgy2)
            | (go_at_call 15; refine Calls.mono (by with_reducible first | exact varint_any _ _ _ [] n1 HX2.out L0 h1 | exact varint_any _ _ _ [] n2 HX2.out L0 h2) ?_; rintro e w1x ⟨rfl, r1x, hWx2, hgx2, hnx2⟩; have HX3 := Lib.hid hWx2; have HY3 := Lib.hid (HY.out.gro hgx2 (by have := HSX.out; omega) (by simp) (by simp)); have HG3 := Lib.hid hgx2; clear hWx2 hgx2)
            | (go_at_call 18; refine Calls.mono (by with_reducible exact len_any _ _ _ _ HY4.out) ?_; rintro e wz ⟨rfl, rfl⟩)
            | (go_at_call 18; refine Calls.mono (by with_reducible exact len_any _ _ _ _ HX4.out) ?_; rintro e wz ⟨rfl, rfl⟩))
          all_goals
            go_ret
            refine ⟨rfl, ?_⟩
            have z1 : Below w.heap.size w w8 := hw8b
            have z2 := z1.size
            have z3 := HSX.out
            have z4 := HSY.out
            have z5 : Below w.heap.size w wy := (z1.trans (hbx.mono z2)).trans (hby.mono (by omega))
            have z6 := HG3.out.below (B := w.heap.size) (by omega) (by omega) (by simp)
            have z7 := HG4.out.below (B := w.heap.size) (by have := z6.size; omega) (by omega) (by simp)
            exact (z5.trans z6).trans z7

theorem walk (v0 : Value) (l0 : List UInt8) (a1 : Int) (a2 : Int) (w : World) (w0 : Sl 0 w.heap.size f8 w v0 l0) (w1 : (Lit.int .u64 a1).wf = true) (w2 : (Lit.int .u64 a2).wf = true) :
    Calls Try.prog 3 #[v0, .int .u64 a1, .int .u64 a2] w fun e w' => e = .returned (.bool true) ∧ Below w.heap.size w w' := by
  have h1 : 0 ≤ a1 ∧ a1 < 18446744073709551616 := by
    have := w1; simp [Lit.wf, IntKind.min, IntKind.max, IntKind.signed, IntKind.bits] at this; omega
  have h2 : 0 ≤ a2 ∧ a2 < 18446744073709551616 := by
    have := w2; simp [Lit.wf, IntKind.min, IntKind.max, IntKind.signed, IntKind.bits] at this; omega
  obtain ⟨n1, rfl⟩ := Int.eq_ofNat_of_zero_le h1.1
  obtain ⟨n2, rfl⟩ := Int.eq_ofNat_of_zero_le h2.1
  exact walk' v0 l0 n1 n2 w w0 (by omega) (by omega)
end Go.Proofs.Ytnplcfgjidolbaa.bitsOne
end
section
namespace Go.Proofs.Ytnplcfgjidolbaa.bitsBack
open Go.RowKit

theorem sv_in (v : Nat) : -9223372036854775808 ≤ wrap64 (v : Int) ∧ wrap64 (v : Int) ≤ 9223372036854775807 := by unfold wrap64; omega
/-- The bits that a call puts. -/
def opBits (o : Opv) : List Bool :=
  if o.k % 4 = 0 then [decide (o.v % 2 = 1)] else if o.k % 4 = 1 then (if 0 ≤ o.n ∧ o.n ≤ 64 then Bt.nb o.v o.n.toNat else [])
  else if o.k % 4 = 2 then Bt.vb o.v else Bt.vb (zz (wrap64 (o.v : Int)))
theorem opBits_le (o : Opv) (h : o.v < 18446744073709551616) : (opBits o).length ≤ 80 := by
  unfold opBits
  have h1 := Bt.vb_le o.v h
  have h2 := Bt.vb_le (zz (wrap64 (o.v : Int))) (zz_lt _ (sv_in _).1 (sv_in _).2)
  repeat' split
  all_goals (try simp [Bt.nb_len])
  all_goals omega
def pre (l : List Opv) (i : Nat) : List Bool := (l.take i).flatMap opBits
theorem pre_succ (l : List Opv) (i : Nat) (h : i < l.length) : pre l (i + 1) = pre l i ++ opBits l[i] := by
  unfold pre
  rw [List.take_succ_eq_append_getElem h, List.flatMap_append]; simp
theorem pre_zero (l : List Opv) : pre l 0 = [] := rfl

theorem pre_split (l : List Opv) (m k : Nat) (hk : k < m) (hm : m ≤ l.length) : ∃ C, pre l m = pre l k ++ opBits (l[k]'(by omega)) ++ C := by
  refine ⟨((l.drop (k + 1)).take (m - (k + 1))).flatMap opBits, ?_⟩
  rw [← pre_succ l k (by omega)]
  unfold pre
  rw [← List.flatMap_append]
  congr 1
  rw [show m = (k + 1) + (m - (k + 1)) from by omega, List.take_add]
  congr 2
  omega
theorem split_at (l : List Opv) (m k : Nat) (hk : k < m) (hm : m ≤ l.length) : ∃ C, Bt.unpack (Bt.pack (pre l m)) = pre l k ++ opBits (l[k]'(by omega)) ++ C := by
  obtain ⟨C, h⟩ := pre_split l m k hk hm
  rw [Bt.unpack_pack]
  exact ⟨C ++ List.replicate (8 * (((pre l m).length + 7) / 8) - (pre l m).length) false, by rw [h]; simp [List.append_assoc]⟩
theorem mid_take (A B C : List Bool) : ((A ++ B ++ C).drop A.length).take B.length = B := by simp
theorem fits (l : List UInt8) (A B C : List Bool) (h : Bt.unpack l = A ++ B ++ C) : A.length + B.length ≤ 8 * l.length := by
  have := congrArg List.length h
  rw [Bt.unpack_len] at this
  simp at this
  omega
theorem bit_back (l : List UInt8) (A C : List Bool) (b : Bool) (h : Bt.unpack l = A ++ [b] ++ C) : Bt.mbit l A.length = b := by
  have h1 := fits l A [b] C h
  have h2 := Bt.unpack_get l A.length (by simp at h1; omega)
  rw [h] at h2
  simp at h2
  exact h2.symm
theorem bits_back (l : List UInt8) (A C : List Bool) (v n : Nat) (h : Bt.unpack l = A ++ Bt.nb v n ++ C) : Bt.val (((Bt.unpack l).drop A.length).take n) = v % 2 ^ n := by
  have e := mid_take A (Bt.nb v n) C
  rw [Bt.nb_len] at e
  rw [h, e, Bt.val_nb]
theorem var_back (l : List UInt8) (A C : List Bool) (v : Nat) (hv : v < 18446744073709551616) (h : Bt.unpack l = A ++ Bt.vb v ++ C) : Bt.rv (Bt.unpack l) A.length = .inr (v, A.length + (Bt.vb v).length) := by
  rw [h]; exact Bt.rv_back A C v hv
theorem mask_and (v n : Nat) (hn : n ≤ 64) : bits .and .u64 (v : Int) (IntKind.u64.wrap (IntKind.u64.wrap (2 ^ n) - 1)) = ((v % 2 ^ n % 18446744073709551616 : Nat) : Int) := by
  have h1 : IntKind.u64.wrap (IntKind.u64.wrap ((2 : Int) ^ n) - 1) = ((2 ^ n - 1 : Nat) : Int) := by
    have hp : 0 < 2 ^ n := Nat.two_pow_pos n
    have hc : ((2 : Int) ^ n) = ((2 ^ n : Nat) : Int) := by push_cast; rfl
    rw [hc]
    rcases Nat.lt_or_ge n 64 with h | h
    · have : 2 ^ n ≤ 2 ^ 63 := Nat.pow_le_pow_right (by omega) (by omega)
      rw [IntWalk.u64_in ((2 ^ n : Nat) : Int) (by omega), IntWalk.u64_in (((2 ^ n : Nat) : Int) - 1) (by omega)]
      omega
    · obtain rfl : n = 64 := by omega
      decide
  rw [h1]
  show IntKind.u64.wrap ((BitVec.ofInt 64 (v : Int) &&& BitVec.ofInt 64 ((2 ^ n - 1 : Nat) : Int)).toNat : Int) = _
  have hlt : 2 ^ n - 1 < 2 ^ 64 := by
    have : 2 ^ n ≤ 2 ^ 64 := Nat.pow_le_pow_right (by omega) hn
    have := Nat.two_pow_pos n
    omega
  rw [BitVec.ofInt_natCast, BitVec.ofInt_natCast, BitVec.toNat_and, BitVec.toNat_ofNat, BitVec.toNat_ofNat, Nat.mod_eq_of_lt hlt, Nat.and_two_pow_sub_one_eq_mod]
  have hd : v % 2 ^ 64 % 2 ^ n = v % 2 ^ n := Nat.mod_mod_of_dvd _ (Nat.pow_dvd_pow 2 hn)
  have hl : v % 2 ^ n < 2 ^ 64 := Nat.lt_of_lt_of_le (Nat.mod_lt _ (Nat.two_pow_pos n)) (Nat.pow_le_pow_right (by omega) hn)
  rw [hd, IntWalk.u64_in _ (by omega), Nat.mod_eq_of_lt hl]
end Go.Proofs.Ytnplcfgjidolbaa.bitsBack
end
section
namespace Go.Proofs.Ytnplcfgjidolbaa
open Go.RowKit

/-- A bit as a byte. -/
def fb (b : Bool) : Value := .int .u8 (if b then 1 else 0)
/-- The document's writer at block B: the bits L, its row r. -/
structure Xr (w : World) (B : Nat) (r : Option Nat) (L : List Bool) : Prop where
  ex : ∃ v, w.heap[B]? = some (.cells #[v, .int .i64 0] 41 (0, 0)) ∧ w.ownsRow 0 5 1 v L.length (L.map fb) ∧ v.ownBlock = r
  ne : r ≠ some B

theorem new_xr (w : World) : Xr (w.alloc (.cells #[.slice none 0 0, .int .i64 0] 41)) w.heap.size none [] :=
  ⟨⟨_, heap_alloc_new w _, World.ownsRow_nil _ _ _ _, rfl⟩, by simp⟩

set_option maxRecDepth 100000 in
theorem xbit_any (w : World) (B : Nat) (r : Option Nat) (L : List Bool) (b : Bool) (h : Xr w B r L) (hL : L.length < 1099511627776) :
    Calls Try.prog 52 #[.pointer (some ⟨B, 0, none⟩), .bool b] w fun e w' => e = .returned (.tuple #[]) ∧ ∃ r', Xr w' B r' (L ++ [b]) ∧ Gro B r w w' ∧ Anew w r r' := by
  obtain ⟨⟨v, hB, hown, hr⟩, hne⟩ := h
  obtain ⟨i0, hi0, hz0, hz1, hz2⟩ := info_parts info5
  obtain ⟨c0, c1, fz⟩ := two_cells hB
  have hBl := block_lt_of_cell c0
  have HB := Lib.hid hB
  have HO := Lib.hid hown
  clear hB hown
  go_enter Try.func52, Try.ntmps52
  cases b
  · go_wp2_with (at_builtin; refine wpList_append_lies _ rfl (.tmp 10) (.tmp 12) 22 rfl 0 5 i0 (.int .u8 0) 1 1 Try.underlying22 hi0 hz0 hz1 hz2 rfl (by decide) v L.length _ rfl (HO.out.alloc _) ⟨w.heap.size, 0, none⟩ 1 1 [.int .u8 0] rfl rfl (news_alloc w [.int .u8 0] 5) (by simp [Value.oneCell']) (by omega) (by unfold maxLen; omega) (by omega) (Nat.zero_le _) _ rfl ?_; intro g cap w1 hown1 hgrow1 hg hgl; have hB1 := grow_two HB.out hgrow1 hr hne; obtain ⟨d0, d1, dz⟩ := two_cells hB1; have HG := Lib.hid hg; have HB1 := Lib.hid hB1; clear hg hB1)
    go_end0
    have hgB : g ≠ B := by
      intro e; subst e
      rcases HG.out with e | e
      · exact hne (hr.symm.trans e)
      · simp at e; omega
    refine ⟨rfl, some g, ⟨⟨_, heap_setCell_same _ _ _ _ _ _ HB1.out, ?_, rfl⟩, by simpa using hgB⟩, ?_, ?_⟩
    · rw [List.length_append, List.map_append]
      exact own_of_same hown1 (fun k hk => heap_setCell_other _ _ _ _ (by injection hk with hk; exact fun e => hgB (hk.trans e)))
    · refine ⟨hgrow1.os, hgrow1.tape, hgrow1.output, ?_, fun k hk h1 h2 => ?_⟩
      · have := hgrow1.size; simp at this ⊢; omega
      · rw [heap_setCell_other _ _ _ _ h1, hgrow1.block k (by simp; omega) (by rw [hr]; exact h2), Below.heap_alloc _ _ _ hk]
    · intro k hk
      injection hk with hk; subst hk
      rcases HG.out with e | e
      · exact .inl (hr.symm.trans e)
      · right; simp at e; omega
  · go_wp2_with (at_builtin; refine wpList_append_lies _ rfl (.tmp 10) (.tmp 12) 22 rfl 0 5 i0 (.int .u8 0) 1 1 Try.underlying22 hi0 hz0 hz1 hz2 rfl (by decide) v L.length _ rfl (HO.out.alloc _) ⟨w.heap.size, 0, none⟩ 1 1 [.int .u8 1] rfl rfl (news_alloc w [.int .u8 1] 5) (by simp [Value.oneCell']) (by omega) (by unfold maxLen; omega) (by omega) (Nat.zero_le _) _ rfl ?_; intro g cap w1 hown1 hgrow1 hg hgl; have hB1 := grow_two HB.out hgrow1 hr hne; obtain ⟨d0, d1, dz⟩ := two_cells hB1; have HG := Lib.hid hg; have HB1 := Lib.hid hB1; clear hg hB1)
    go_end0
    have hgB : g ≠ B := by
      intro e; subst e
      rcases HG.out with e | e
      · exact hne (hr.symm.trans e)
      · simp at e; omega
    refine ⟨rfl, some g, ⟨⟨_, heap_setCell_same _ _ _ _ _ _ HB1.out, ?_, rfl⟩, by simpa using hgB⟩, ?_, ?_⟩
    · rw [List.length_append, List.map_append]
      exact own_of_same hown1 (fun k hk => heap_setCell_other _ _ _ _ (by injection hk with hk; exact fun e => hgB (hk.trans e)))
    · refine ⟨hgrow1.os, hgrow1.tape, hgrow1.output, ?_, fun k hk h1 h2 => ?_⟩
      · have := hgrow1.size; simp at this ⊢; omega
      · rw [heap_setCell_other _ _ _ _ h1, hgrow1.block k (by simp; omega) (by rw [hr]; exact h2), Below.heap_alloc _ _ _ hk]
    · intro k hk
      injection hk with hk; subst hk
      rcases HG.out with e | e
      · exact .inl (hr.symm.trans e)
      · right; simp at e; omega

theorem bit_eq64 (v j : Nat) (hv : v < 18446744073709551616) : (bits .and .u64 ((v : Int) / 2 ^ j) 1 == 1) = v.testBit j := by
  have h := bit_of64 v j hv
  have e : ((v : Int) / 2 ^ j) = ((v / 2 ^ j : Nat) : Int) := by rw [Int.natCast_ediv, Int.natCast_pow]; rfl
  have h1 : v / 2 ^ j < 2 ^ 64 := Nat.lt_of_le_of_lt (Nat.div_le_self _ _) (by omega)
  have e2 : bits .and .u64 ((v / 2 ^ j : Nat) : Int) 1 = ((v / 2 ^ j % 2 : Nat) : Int) := by
    show IntKind.u64.wrap ((BitVec.ofInt 64 ((v / 2 ^ j : Nat) : Int) &&& BitVec.ofInt 64 (1 : Int)).toNat : Int) = _
    rw [BitVec.ofInt_natCast, BitVec.toNat_and, BitVec.toNat_ofNat, Nat.mod_eq_of_lt h1]
    have e3 : (BitVec.ofInt 64 (1 : Int)).toNat = 1 := by decide
    rw [e3, Nat.and_one_is_mod, IntWalk.u64_in]
    have := Nat.mod_lt (v / 2 ^ j) (show 0 < 2 by omega)
    omega
  rw [← h, e, e2]
  have := Nat.mod_lt (v / 2 ^ j) (show 0 < 2 by omega)
  by_cases h : v / 2 ^ j % 2 = 1
  · rw [h]; rfl
  · have h0 : v / 2 ^ j % 2 = 0 := by omega
    rw [h0]; rfl

set_option maxRecDepth 100000 in
theorem xbits_any (w : World) (B : Nat) (r : Option Nat) (L : List Bool) (v n : Nat) (h : Xr w B r L) (hL : L.length + n < 1099511627776) (hv : v < 18446744073709551616) (hn : n ≤ 64) :
    Calls Try.prog 53 #[.pointer (some ⟨B, 0, none⟩), .int .u64 v, .int .i64 n] w fun e w' => e = .returned (.int .u16 0) ∧ ∃ r', Xr w' B r' (L ++ Bt.nb v n) ∧ Gro B r w w' ∧ Anew w r r' := by
  go_enter Try.func53, Try.ntmps53
  go_wp2
  go_loopw [7] (fun i wr => ∃ (k : Nat) (r' : Option Nat), k ≤ n ∧ i = .int .i64 ((n : Int) - 1 - k) ∧ Xr wr B r' (L ++ (Bt.nb v n).take k) ∧ Gro B r w wr ∧ Anew w r r') (fun i _ => (intOf i + 1).toNat)
  case atStart => exact ⟨0, r, by omega, by simp, by simpa using h, Gro.refl _ _ _, Anew.refl _ _⟩
  case round =>
    obtain ⟨k, r', hk, rfl, hwr, hgr, han⟩ := hrel
    by_cases hlt : k < n
    · have hb := bit_eq64 v (n - 1 - k) hv
      have HW := Lib.hid hwr
      clear hwr h
      have hi : (0 : Int) ≤ (n : Int) - 1 - k := by omega
      have hlen : (L ++ (Bt.nb v n).take k).length < 1099511627776 := by
        rw [List.length_append, List.length_take, Bt.nb_len]; omega
      have ht : ((n : Int) - 1 - k).toNat = n - 1 - k := by omega
      go_wp2_with (go_at_call 52; refine (xbit_any _ B r' _ _ HW.out hlen).mono ?_; rintro e w1 ⟨rfl, r1, hw1, hg1, ha1⟩)
      go_roundw
      case rel =>
        refine ⟨k + 1, r1, by omega, ?_, ?_, hgr.trans hg1 han, han.trans ha1 hgr.size⟩
        · rw [show ((n : Int) - 1 - k - 1) = (n : Int) - 1 - ((k + 1 : Nat) : Int) from by omega]
        · rw [nb_take v n k hlt, ← List.append_assoc]; exact hw1
      case measure => simp [intOf]; omega
    · have e : k = n := by omega
      subst e
      have ht : (Bt.nb v k).take k = Bt.nb v k := List.take_of_length_le (by rw [Bt.nb_len]; exact Nat.le_refl _)
      rw [ht] at hwr
      have HW := Lib.hid hwr
      clear hwr h ht
      go_wp2
      go_ret
      exact ⟨rfl, r', HW.out, hgr, han⟩

theorem xbits_bad (w : World) (B : Nat) (v : Nat) (n : Int) (hn : n < 0 ∨ 64 < n) :
    Calls Try.prog 53 #[.pointer (some ⟨B, 0, none⟩), .int .u64 v, .int .i64 n] w fun e w' => e = .returned (.int .u16 1) ∧ w = w' := by
  rcases hn with hn | hn
  all_goals
    go_enter Try.func53, Try.ntmps53
    go_wp2
    go_ret
    exact ⟨rfl, rfl⟩

theorem xbits_group (w : World) (B : Nat) (r : Option Nat) (L : List Bool) (u : Nat) (h : Xr w B r L) (hL : L.length + 8 < 1099511627776) :
    Calls Try.prog 53 #[.pointer (some ⟨B, 0, none⟩), .int .u64 (128 + (u : Int) % 128), .int .i64 8] w fun e w' => e = .returned (.int .u16 0) ∧ ∃ r', Xr w' B r' (L ++ Bt.nb (u % 128 + 128) 8) ∧ Gro B r w w' ∧ Anew w r r' := by
  rw [show (128 + (u : Int) % 128) = ((u % 128 + 128 : Nat) : Int) from by omega]
  exact xbits_any w B r L (u % 128 + 128) 8 h hL (by omega) (by omega)

set_option maxRecDepth 100000 in
theorem xvarint_any (w : World) (B : Nat) (r : Option Nat) (L : List Bool) (v : Nat) (h : Xr w B r L) (hL : L.length < 1099511627000) (hv : v < 18446744073709551616) :
    Calls Try.prog 54 #[.pointer (some ⟨B, 0, none⟩), .int .u64 v] w fun e w' => e = .returned (.tuple #[]) ∧ ∃ r', Xr w' B r' (L ++ Bt.vb v) ∧ Gro B r w w' ∧ Anew w r r' := by
  go_enter Try.func54, Try.ntmps54
  go_wp2_with fail
  go_loopw [1] (fun i wr => ∃ (k u : Nat) (L' : List Bool) (r' : Option Nat), i = .int .u64 u ∧ u < 128 ^ (k + 1) ∧ k ≤ 10 ∧ L'.length + 8 * k ≤ L.length + 80 ∧ u < 18446744073709551616 ∧ L' ++ Bt.vbf k u = L ++ Bt.vb v ∧ Xr wr B r' L' ∧ Gro B r w wr ∧ Anew w r r') (fun i _ => (intOf i).toNat)
  case atStart => exact ⟨10, v, L, r, rfl, by omega, by omega, by omega, hv, rfl, h, Gro.refl _ _ _, Anew.refl _ _⟩
  case round =>
    obtain ⟨k, u, L', r', rfl, hu, hk, hl, hu2, hL', hwr, hgr, han⟩ := hrel
    have HW := Lib.hid hwr
    have HL := Lib.hid hL'
    have HU := Lib.hid hu
    clear hwr h hL' hu
    by_cases hlt : 127 < u
    · have HC := Lib.hid (xbits_group wr B r' L' u HW.out (by omega))
      go_wp2_with (go_at_call 53; refine Calls.mono HC.out ?_; rintro e w1 ⟨rfl, r1, hw1, hg1, ha1⟩)
      go_roundw
      case rel =>
        cases k with
        | zero => have := HU.out; simp at this; omega
        | succ k =>
          refine ⟨k, u / 128, L' ++ Bt.nb (u % 128 + 128) 8, r1, by go_num, ?_, by omega, by rw [List.length_append, Bt.nb_len]; omega, by omega, ?_, hw1, hgr.trans hg1 han, han.trans ha1 hgr.size⟩
          · have := HU.out; rw [Nat.pow_succ] at this; exact Nat.div_lt_of_lt_mul (by rw [Nat.mul_comm]; exact this)
          · rw [← HL.out, Bt.vbf, if_pos hlt, List.append_assoc]
      case measure => simp [intOf]; omega
    · have hv8 : Bt.vbf k u = Bt.nb u 8 := by
        cases k with
        | zero => rfl
        | succ k => rw [Bt.vbf, if_neg hlt]
      go_wp2_with (go_at_call 53; refine (xbits_any _ B r' L' u 8 HW.out (by omega) hu2 (by omega)).mono ?_; rintro e w1 ⟨rfl, r1, hw1, hg1, ha1⟩)
      go_end0
      refine ⟨rfl, r1, ?_, hgr.trans hg1 han, han.trans ha1 hgr.size⟩
      rw [← HL.out, hv8]; exact hw1

theorem xvarint_zz (w : World) (B : Nat) (r : Option Nat) (L : List Bool) (x z : Int) (h : Xr w B r L) (hL : L.length < 1099511627000) (h1 : -9223372036854775808 ≤ x) (h2 : x ≤ 9223372036854775807) (hz : z = (zz x : Int)) :
    Calls Try.prog 54 #[.pointer (some ⟨B, 0, none⟩), .int .u64 z] w fun e w' => e = .returned (.tuple #[]) ∧ ∃ r', Xr w' B r' (L ++ Bt.vb (zz x)) ∧ Gro B r w w' ∧ Anew w r r' := by
  rw [hz]
  exact xvarint_any w B r L (zz x) h hL (zz_lt x h1 h2)

set_option maxRecDepth 100000 in
theorem xsigned_any (w : World) (B : Nat) (r : Option Nat) (L : List Bool) (x : Int) (h : Xr w B r L) (hL : L.length < 1099511627000) (h1 : -9223372036854775808 ≤ x) (h2 : x ≤ 9223372036854775807) :
    Calls Try.prog 55 #[.pointer (some ⟨B, 0, none⟩), .int .i64 x] w fun e w' => e = .returned (.tuple #[]) ∧ ∃ r', Xr w' B r' (L ++ Bt.vb (zz x)) ∧ Gro B r w w' ∧ Anew w r r' := by
  by_cases hx : 0 ≤ x
  · go_enter Try.func55, Try.ntmps55
    have HC := Lib.hid fun z hz => xvarint_zz w B r L x z h hL h1 h2 hz
    go_wp2_with (go_at_call 54; refine Calls.mono (HC.out _ (by unfold zz; rw [if_pos hx]; omega)) ?_; rintro e w1 ⟨rfl, r1, hw1, hg1, ha1⟩)
    (try simp only [Exit.inBlock, Exit.then]); refine bodyPost_ret (results_none rfl _ _ _) rfl ?_
    exact ⟨rfl, r1, hw1, hg1, ha1⟩
  · go_enter Try.func55, Try.ntmps55
    have HC := Lib.hid fun z hz => xvarint_zz w B r L x z h hL h1 h2 hz
    go_wp2_with (go_at_call 54; refine Calls.mono (HC.out _ (by unfold zz; rw [if_neg hx]; omega)) ?_; rintro e w1 ⟨rfl, r1, hw1, hg1, ha1⟩)
    go_end0
    exact ⟨rfl, r1, hw1, hg1, ha1⟩
end Go.Proofs.Ytnplcfgjidolbaa
end
