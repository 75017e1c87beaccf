/- A slice of samples that came in. -/
import Derived.Test.YtepjpdhmjchakaaDoorGz7
import Derived.Deep.Slices
import Derived.Deep.Fields
import Derived.ChangeSame
import Derived.OpenShut
namespace Go.Proofs.YtepjpdhmjchakaaDoor
open Go.RowKit Go.ChangeShapes Go.WideShapes
set_option linter.unusedVariables false

/-- A sample's two cells. -/
structure SmAt (w : World) (b o : Nat) (x : Gz.Smp) : Prop where
  c0 : w.cell? ⟨b, o, none⟩ = some (.int .i64 x.t)
  c1 : w.cell? ⟨b, o + 1, none⟩ = some (.int .u64 (x.v : Int))
  t : -9223372036854775808 ≤ x.t ∧ x.t ≤ 9223372036854775807
  v : x.v < 18446744073709551616

/-- The slice has the samples l. -/
structure Sms (hi : Nat) (w : World) (ao : Option Addr) (cap : Nat) (l : List Gz.Smp) : Prop where
  len : l.length ≤ maxLen
  cells : l ≠ [] → ∃ b off, ao = some ⟨b, off, none⟩ ∧ b < hi ∧ ∀ j (h : j < l.length), SmAt w b (off + j * 2) l[j]

theorem Sms.below {hi B : Nat} {w w' : World} {ao : Option Addr} {cap : Nat} {l : List Gz.Smp} (h : Sms hi w ao cap l) (hb : Below B w w') (hh : hi ≤ B) : Sms hi w' ao cap l := by
  refine ⟨h.len, fun hne => ?_⟩
  obtain ⟨b, off, h1, h2, h3⟩ := h.cells hne
  refine ⟨b, off, h1, h2, fun j hj => ?_⟩
  have q := h3 j hj
  have e : w'.heap[b]? = w.heap[b]? := hb.block b (by omega)
  have ec : ∀ o, w'.cell? ⟨b, o, none⟩ = w.cell? ⟨b, o, none⟩ := fun o => World.cell?_of_block e
  exact ⟨(ec _).trans q.c0, (ec _).trans q.c1, q.t, q.v⟩

def fieldsOf (P : Program) (t : TypeId) : Option (List (TypeId × Nat)) := match P.underlying t with | some (.struct fs) => some (fs.toList.map fun f => (f.type, f.offset)) | _ => none
theorem fields_of {P : Program} {t : TypeId} {l : List (TypeId × Nat)} (h : fieldsOf P t = some l) : ∃ fs, P.underlying t = some (.struct fs) ∧ fs.toList.map (fun f => (f.type, f.offset)) = l := by
  unfold fieldsOf at h
  split at h
  · next fs e => exact ⟨fs, e, by injection h⟩
  · cases h
theorem fieldsSm : fieldsOf Tryd.prog 70 = some [(2, 0), (68, 1)] := by kernel_rfl

set_option maxRecDepth 100000 in
theorem open_smps {H : Type} {enc : TypeId × Value → H} {w : World} {spare : Nat → Bool} {held : Bool} {fuel : Nat} {v : Value} {x : DataW H × List MemPlace} (h : DataW.trod enc Tryd.prog w 0 spare held fuel 22 [v] = some x) :
    ∃ ao cap l, v = .slice ao l.length cap ∧ Sms w.heap.size w ao cap l := by
  rcases Go.Deep.open_slice Tryd.underlying22 h with ⟨h0, _⟩ | ⟨a, len, cap, m, n, D, Pl, hcs, hb, hl, hm, hmm, hx, hi⟩
  · injection h0 with h0 _
    exact ⟨none, 0, [], h0, by simp, fun h => absurd rfl h⟩
  · injection hcs with hcs _
    obtain ⟨fs, hs, hf⟩ := fields_of fieldsSm
    have hC : Tryd.prog.cellsOf 70 = 2 := by kernel_rfl
    have honeU : Tryd.prog.cellsOf 68 = 1 := by kernel_rfl
    have honeI : Tryd.prog.cellsOf 2 = 1 := by kernel_rfl
    have hlm : len ≤ m := by rw [hmm]; split <;> omega
    have hspot : 0 < len → a.spot = none := by
      intro hp
      obtain ⟨cs', hc, ht⟩ := hi 0 (by omega)
      rw [hC] at hc
      obtain ⟨_, hcl, hat⟩ := World.cells?_some hc
      match cs', hcl with
      | [x0, x1], _ =>
      have := World.cell?_spot (hat 0 (by omega))
      simpa [Addr.add] using this
    have key : ∀ i, i < len → ∃ o : Gz.Smp, a.spot = none ∧ SmAt w a.block (a.off + i * 2) o := by
      intro i hi'
      obtain ⟨cs', hc, ht⟩ := hi i (by omega)
      rw [hC] at hc
      obtain ⟨_, hcl, hat⟩ := World.cells?_some hc
      obtain ⟨ys, n', hn', hy, hlen, hyl, hff⟩ := DataW.trod_struct hs ht
      match cs', hcl with
      | [x0, x1], _ =>
      match fs, hf with
      | ⟨[f0, f1]⟩, hf =>
      simp at hf
      obtain ⟨⟨t0, o0⟩, ⟨t1, o1⟩⟩ := hf
      match ys, hyl with
      | [y0, y1], _ =>
      have g0 := hff 0 f0 rfl
      have g1 := hff 1 f1 rfl
      rw [t0, o0, honeI] at g0
      rw [t1, o1, honeU] at g1
      obtain ⟨n0, e0, _, w0⟩ := DataW.trod_int Tryd.underlying2 g0
      obtain ⟨n1, e1, _, w1⟩ := DataW.trod_int Tryd.underlying68 g1
      have p0 : x0 = .int .i64 n0 := by simpa using e0
      have p1 : x1 = .int .u64 n1 := by simpa using e1
      clear e0 e1
      subst p0 p1
      have q0 := hat 0 (by omega)
      have q1 := hat 1 (by omega)
      have hsp := hspot (by omega)
      obtain ⟨b, off, sp⟩ := a
      obtain rfl : sp = none := hsp
      simp only [add_plain] at q0 q1
      have h1 : -9223372036854775808 ≤ n0 ∧ n0 ≤ 9223372036854775807 := by have := w0; simp [Lit.wf, IntKind.min, IntKind.max, IntKind.signed, IntKind.bits] at this; omega
      have h2 : 0 ≤ n1 ∧ n1 < 18446744073709551616 := by have := w1; simp [Lit.wf, IntKind.min, IntKind.max, IntKind.signed, IntKind.bits] at this; omega
      obtain ⟨m1, rfl⟩ := Int.eq_ofNat_of_zero_le h2.1
      exact ⟨⟨n0, m1⟩, rfl, q0, q1, h1, by simp; omega⟩
    have hall : ∃ l : List Gz.Smp, l.length = len ∧ ∀ j (hj : j < l.length), a.spot = none ∧ SmAt w a.block (a.off + j * 2) l[j] := by
      refine ⟨List.ofFn (fun j : Fin len => (key j.val j.isLt).choose), by simp, fun j hj => ?_⟩
      rw [List.getElem_ofFn]
      exact (key j (by simpa using hj)).choose_spec
    obtain ⟨l, hl1, hl2⟩ := hall
    refine ⟨some a, cap, l, by rw [hl1]; exact hcs, by omega, fun hne => ?_⟩
    have hp : 0 < l.length := List.length_pos_iff.2 hne
    obtain ⟨b, off, sp⟩ := a
    obtain rfl : sp = none := (hl2 0 hp).1
    exact ⟨b, off, rfl, block_lt_of_cell (hl2 0 hp).2.c0, fun j hj => (hl2 j hj).2⟩
end Go.Proofs.YtepjpdhmjchakaaDoor
