import Derived.Test.YtepjpdhmjchakaaGreatDoorP13
import Derived.Deep.Slices
import Derived.Deep.Fields
import Derived.ChangeSame
import Derived.OpenShut
import Derived.Test.YtepjpdhmjchakaaGreatDoorP1
import Derived.Laws.BytesArg
import Derived.Lib.Bytes
import Derived.Deep.QuietTactic
import Derived.BigQuiet
import Derived.Laws.StructEq
/- A slice of samples that came in. -/
namespace Go.Proofs.YtepjpdhmjchakaaGreatDoor
open Go.RowKit Go.ChangeShapes Go.WideShapes
set_option linter.unusedVariables false

/-- A sample's two cells. -/
structure SmAt (w : World) (b o : Nat) (x : Gz.Smp) : Prop where
  c0 : w.cell? ⟨b, o, none⟩ = some (.int .i64 x.t)
  c1 : w.cell? ⟨b, o + 1, none⟩ = some (.int .u64 (x.v : Int))
  t : -9223372036854775808 ≤ x.t ∧ x.t ≤ 9223372036854775807
  v : x.v < 18446744073709551616

/-- The slice has the samples l. -/
structure Sms (hi : Nat) (w : World) (ao : Option Addr) (cap : Nat) (l : List Gz.Smp) : Prop where
  len : l.length ≤ maxLen
  cells : l ≠ [] → ∃ b off, ao = some ⟨b, off, none⟩ ∧ b < hi ∧ ∀ j (h : j < l.length), SmAt w b (off + j * 2) l[j]

theorem Sms.below {hi B : Nat} {w w' : World} {ao : Option Addr} {cap : Nat} {l : List Gz.Smp} (h : Sms hi w ao cap l) (hb : Below B w w') (hh : hi ≤ B) : Sms hi w' ao cap l := by
  refine ⟨h.len, fun hne => ?_⟩
  obtain ⟨b, off, h1, h2, h3⟩ := h.cells hne
  refine ⟨b, off, h1, h2, fun j hj => ?_⟩
  have q := h3 j hj
  have e : w'.heap[b]? = w.heap[b]? := hb.block b (by omega)
  have ec : ∀ o, w'.cell? ⟨b, o, none⟩ = w.cell? ⟨b, o, none⟩ := fun o => World.cell?_of_block e
  exact ⟨(ec _).trans q.c0, (ec _).trans q.c1, q.t, q.v⟩

def fieldsOf (P : Program) (t : TypeId) : Option (List (TypeId × Nat)) := match P.underlying t with | some (.struct fs) => some (fs.toList.map fun f => (f.type, f.offset)) | _ => none
theorem fields_of {P : Program} {t : TypeId} {l : List (TypeId × Nat)} (h : fieldsOf P t = some l) : ∃ fs, P.underlying t = some (.struct fs) ∧ fs.toList.map (fun f => (f.type, f.offset)) = l := by
  unfold fieldsOf at h
  split at h
  · next fs e => exact ⟨fs, e, by injection h⟩
  · cases h
theorem fieldsSm : fieldsOf Tryz.prog 79 = some [(2, 0), (77, 1)] := by kernel_rfl

set_option maxRecDepth 100000 in
theorem open_smps {H : Type} {enc : TypeId × Value → H} {w : World} {spare : Nat → Bool} {held : Bool} {fuel : Nat} {v : Value} {x : DataW H × List MemPlace} (h : DataW.trod enc Tryz.prog w 0 spare held fuel 22 [v] = some x) :
    ∃ ao cap l, v = .slice ao l.length cap ∧ Sms w.heap.size w ao cap l := by
  rcases Go.Deep.open_slice Tryz.underlying22 h with ⟨h0, _⟩ | ⟨a, len, cap, m, n, D, Pl, hcs, hb, hl, hm, hmm, hx, hi⟩
  · injection h0 with h0 _
    exact ⟨none, 0, [], h0, by simp, fun h => absurd rfl h⟩
  · injection hcs with hcs _
    obtain ⟨fs, hs, hf⟩ := fields_of fieldsSm
    have hC : Tryz.prog.cellsOf 79 = 2 := by kernel_rfl
    have honeU : Tryz.prog.cellsOf 77 = 1 := by kernel_rfl
    have honeI : Tryz.prog.cellsOf 2 = 1 := by kernel_rfl
    have hlm : len ≤ m := by rw [hmm]; split <;> omega
    have hspot : 0 < len → a.spot = none := by
      intro hp
      obtain ⟨cs', hc, ht⟩ := hi 0 (by omega)
      rw [hC] at hc
      obtain ⟨_, hcl, hat⟩ := World.cells?_some hc
      match cs', hcl with
      | [x0, x1], _ =>
      have := World.cell?_spot (hat 0 (by omega))
      simpa [Addr.add] using this
    have key : ∀ i, i < len → ∃ o : Gz.Smp, a.spot = none ∧ SmAt w a.block (a.off + i * 2) o := by
      intro i hi'
      obtain ⟨cs', hc, ht⟩ := hi i (by omega)
      rw [hC] at hc
      obtain ⟨_, hcl, hat⟩ := World.cells?_some hc
      obtain ⟨ys, n', hn', hy, hlen, hyl, hff⟩ := DataW.trod_struct hs ht
      match cs', hcl with
      | [x0, x1], _ =>
      match fs, hf with
      | ⟨[f0, f1]⟩, hf =>
      simp at hf
      obtain ⟨⟨t0, o0⟩, ⟨t1, o1⟩⟩ := hf
      match ys, hyl with
      | [y0, y1], _ =>
      have g0 := hff 0 f0 rfl
      have g1 := hff 1 f1 rfl
      rw [t0, o0, honeI] at g0
      rw [t1, o1, honeU] at g1
      obtain ⟨n0, e0, _, w0⟩ := DataW.trod_int Tryz.underlying2 g0
      obtain ⟨n1, e1, _, w1⟩ := DataW.trod_int Tryz.underlying77 g1
      have p0 : x0 = .int .i64 n0 := by simpa using e0
      have p1 : x1 = .int .u64 n1 := by simpa using e1
      clear e0 e1
      subst p0 p1
      have q0 := hat 0 (by omega)
      have q1 := hat 1 (by omega)
      have hsp := hspot (by omega)
      obtain ⟨b, off, sp⟩ := a
      obtain rfl : sp = none := hsp
      simp only [add_plain] at q0 q1
      have h1 : -9223372036854775808 ≤ n0 ∧ n0 ≤ 9223372036854775807 := by have := w0; simp [Lit.wf, IntKind.min, IntKind.max, IntKind.signed, IntKind.bits] at this; omega
      have h2 : 0 ≤ n1 ∧ n1 < 18446744073709551616 := by have := w1; simp [Lit.wf, IntKind.min, IntKind.max, IntKind.signed, IntKind.bits] at this; omega
      obtain ⟨m1, rfl⟩ := Int.eq_ofNat_of_zero_le h2.1
      exact ⟨⟨n0, m1⟩, rfl, q0, q1, h1, by simp; omega⟩
    have hall : ∃ l : List Gz.Smp, l.length = len ∧ ∀ j (hj : j < l.length), a.spot = none ∧ SmAt w a.block (a.off + j * 2) l[j] := by
      refine ⟨List.ofFn (fun j : Fin len => (key j.val j.isLt).choose), by simp, fun j hj => ?_⟩
      rw [List.getElem_ofFn]
      exact (key j (by simpa using hj)).choose_spec
    obtain ⟨l, hl1, hl2⟩ := hall
    refine ⟨some a, cap, l, by rw [hl1]; exact hcs, by omega, fun hne => ?_⟩
    have hp : 0 < l.length := List.length_pos_iff.2 hne
    obtain ⟨b, off, sp⟩ := a
    obtain rfl : sp = none := (hl2 0 hp).1
    exact ⟨b, off, rfl, block_lt_of_cell (hl2 0 hp).2.c0, fun j hj => (hl2 j hj).2⟩
end Go.Proofs.YtepjpdhmjchakaaGreatDoor

/- Rows of samples and of chunks of the call's own, as slices that are read. -/
namespace Go.Proofs.YtepjpdhmjchakaaGreatDoor
open Go.RowKit
set_option linter.unusedVariables false

/-- The cells of samples. -/
def smCs (l : List Gz.Smp) : List Value := (l.map fun s => [Value.int .i64 s.t, Value.int .u64 (s.v : Int)]).flatten
theorem smCs_snoc (l : List Gz.Smp) (s : Gz.Smp) : smCs (l ++ [s]) = smCs l ++ [Value.int .i64 s.t, Value.int .u64 (s.v : Int)] := by simp [smCs]
theorem smCs_len (l : List Gz.Smp) : (smCs l).length = l.length * 2 := by
  induction l with
  | nil => rfl
  | cons a l ih => simp only [smCs, List.map_cons, List.flatten_cons, List.length_append, List.length_cons, List.length_nil] at *; omega
theorem smCs_get : ∀ {l : List Gz.Smp} {j : Nat} (h : j < l.length), (smCs l)[j * 2]? = some (.int .i64 l[j].t) ∧ (smCs l)[j * 2 + 1]? = some (.int .u64 (l[j].v : Int))
  | [], _, h => by simp at h
  | a :: l, 0, h => by simp [smCs]
  | a :: l, j + 1, h => by
    have ih := smCs_get (l := l) (j := j) (by simpa using h)
    rw [show smCs (a :: l) = Value.int .i64 a.t :: Value.int .u64 (a.v : Int) :: smCs l by simp [smCs], show (j + 1) * 2 = j * 2 + 1 + 1 by omega]
    simpa using ih
theorem own_lt {w : World} {base : Nat} {e : TypeId} {size : Nat} {g n cap : Nat} {o : Nat} {xs : List Value} (h : w.ownsRow base e size (.slice (some ⟨g, o, none⟩) n cap) n xs) : g < w.heap.size := (h.lt g rfl).2
theorem Sms.mono {hi hi' : Nat} {w : World} {ao : Option Addr} {cap : Nat} {l : List Gz.Smp} (h : Sms hi w ao cap l) (hh : hi ≤ hi') : Sms hi' w ao cap l := by
  refine ⟨h.len, fun hne => ?_⟩
  obtain ⟨b, off, h1, h2, h3⟩ := h.cells hne
  exact ⟨b, off, h1, by omega, h3⟩
theorem Sms.owns {w : World} {base : Nat} {v : Value} {l : List Gz.Smp} (h : w.ownsRow base 79 2 v l.length (smCs l)) (hl : l.length ≤ maxLen)
    (hb : ∀ s ∈ l, (-9223372036854775808 ≤ s.t ∧ s.t ≤ 9223372036854775807) ∧ s.v < 18446744073709551616) :
    ∃ ao cap, v = .slice ao l.length cap ∧ Sms w.heap.size w ao cap l := by
  have hx := h
  obtain ⟨_, ⟨rfl, hn⟩ | ⟨g, cap, cur, rfl, hbg, hh, h1, h2, h3, h4⟩⟩ := h
  · exact ⟨none, 0, by rw [hn], hl, fun hne => absurd (List.eq_nil_of_length_eq_zero hn) hne⟩
  · refine ⟨_, cap, rfl, hl, fun _ => ⟨g, 0, rfl, own_lt hx, fun j hj => ?_⟩⟩
    have hc := hx.cells (g := g) rfl
    obtain ⟨g0, g1⟩ := smCs_get hj
    have c0 := hc _ _ g0
    have c1 := hc _ _ g1
    rw [Addr.add_lit] at c0 c1
    exact ⟨c0, c1, (hb _ (List.getElem_mem hj)).1, (hb _ (List.getElem_mem hj)).2⟩

theorem Sms.fits {hi : Nat} {w : World} {ao : Option Addr} {cap : Nat} {l : List Gz.Smp} (h : Sms hi w ao cap l) : ∀ s ∈ l, (-9223372036854775808 ≤ s.t ∧ s.t ≤ 9223372036854775807) ∧ s.v < 18446744073709551616 := by
  intro s hs
  obtain ⟨i, hi, rfl⟩ := List.getElem_of_mem hs
  obtain ⟨b, off, _, _, hc⟩ := h.cells (by intro e; subst e; simp at hi)
  exact ⟨(hc i hi).t, (hc i hi).v⟩
theorem cks_get : ∀ {cs : List Ck} {us : List Value} (h : us.length = cs.length) {j : Nat} (hj : j < cs.length) (hj' : j < us.length) (i : Nat) (hi : i < 4), (cks cs us)[j * 4 + i]? = (ckc cs[j] us[j])[i]?
  | [], _, _, _, hj, _, _, _ => by simp at hj
  | _ :: _, [], h, _, _, _, _, _ => by simp at h
  | c :: cs, u :: us, h, 0, hj, hj', i, hi => by
    rw [show cks (c :: cs) (u :: us) = ckc c u ++ cks cs us by simp [cks], List.getElem?_append_left (by simp [ckc]; omega)]
    simp
  | c :: cs, u :: us, h, j + 1, hj, hj', i, hi => by
    have ih := cks_get (cs := cs) (us := us) (by simpa using h) (j := j) (by simpa using hj) (by simpa using hj') i hi
    rw [show cks (c :: cs) (u :: us) = ckc c u ++ cks cs us by simp [cks], List.getElem?_append_right (by simp [ckc]; omega)]
    rw [show (j + 1) * 4 + i - (ckc c u).length = j * 4 + i by simp [ckc]; omega]
    simpa using ih

/-- A chunk whose number of samples is any number. -/
structure Cki where
  f : Int
  t : Int
  n : Int
  d : List UInt8
def Ck.i (c : Ck) : Cki := ⟨c.f, c.t, c.n, c.d⟩
theorem Ck.i_inj {a b : Ck} (h : a.i = b.i) : a = b := by
  cases a; cases b
  simp only [Ck.i, Cki.mk.injEq] at h
  obtain ⟨h1, h2, h3, h4⟩ := h
  simp only [Ck.mk.injEq]
  exact ⟨h1, h2, by omega, h4⟩
theorem cki_ext {a b : Cki} (h1 : a.f = b.f) (h2 : a.t = b.t) (h3 : a.n = b.n) (h4 : a.d = b.d) : a = b := by cases a; cases b; simp_all
theorem map_inj : ∀ {l m : List Ck}, l.map Ck.i = m.map Ck.i → l = m
  | [], [], _ => rfl
  | [], _ :: _, h => by simp at h
  | _ :: _, [], h => by simp at h
  | a :: l, b :: m, h => by
    simp only [List.map_cons, List.cons.injEq] at h
    rw [Ck.i_inj h.1, map_inj h.2]

/-- A chunk's four cells. -/
structure ChAt (hi : Nat) (w : World) (b o : Nat) (x : Cki) : Prop where
  c0 : w.cell? ⟨b, o, none⟩ = some (.int .i64 x.f)
  c1 : w.cell? ⟨b, o + 1, none⟩ = some (.int .i64 x.t)
  c2 : w.cell? ⟨b, o + 2, none⟩ = some (.int .i64 x.n)
  c3 : ∃ u, w.cell? ⟨b, o + 3, none⟩ = some u ∧ Sl 0 hi f8 w u x.d
/-- The slice has the chunks l. -/
structure Chs (hi : Nat) (w : World) (ao : Option Addr) (cap : Nat) (l : List Cki) : Prop where
  len : l.length ≤ maxLen
  cells : l ≠ [] → ∃ b off, ao = some ⟨b, off, none⟩ ∧ b < hi ∧ ∀ j (h : j < l.length), ChAt hi w b (off + j * 4) l[j]
theorem Chs.below {hi B : Nat} {w w' : World} {ao : Option Addr} {cap : Nat} {l : List Cki} (h : Chs hi w ao cap l) (hb : Below B w w') (hh : hi ≤ B) : Chs hi w' ao cap l := by
  refine ⟨h.len, fun hne => ?_⟩
  obtain ⟨b, off, h1, h2, h3⟩ := h.cells hne
  refine ⟨b, off, h1, h2, fun j hj => ?_⟩
  obtain ⟨q0, q1, q2, u, q3, q4⟩ := h3 j hj
  have e : w'.heap[b]? = w.heap[b]? := hb.block b (by omega)
  have ec : ∀ o, w'.cell? ⟨b, o, none⟩ = w.cell? ⟨b, o, none⟩ := fun o => World.cell?_of_block e
  exact ⟨(ec _).trans q0, (ec _).trans q1, (ec _).trans q2, u, (ec _).trans q3, q4.below hb hh⟩
theorem Chs.owns {w : World} {base : Nat} {v : Value} {us : List Value} {cs : List Ck} (h : CRow w base v us cs) (hl : cs.length ≤ maxLen) (hd : ∀ c ∈ cs, c.d.length ≤ 140737488355328) :
    ∃ ao cap, v = .slice ao cs.length cap ∧ Chs w.heap.size w ao cap (cs.map Ck.i) := by
  have hx := h.row
  obtain ⟨_, ⟨rfl, hn⟩ | ⟨g, cap, cur, rfl, hbg, hh, h1, h2, h3, h4⟩⟩ := h.row
  · refine ⟨none, 0, by rw [hn], by simpa using hl, fun hne => absurd (List.eq_nil_of_length_eq_zero (by simpa using hn)) hne⟩
  · refine ⟨_, cap, rfl, by simpa using hl, fun _ => ⟨g, 0, rfl, own_lt hx, fun j hj => ?_⟩⟩
    have hj1 : j < cs.length := by simpa using hj
    have hj2 : j < us.length := by rw [h.len]; exact hj1
    have hc := hx.cells (g := g) rfl
    have get : ∀ i (hi : i < 4) x, (ckc cs[j] us[j])[i]? = some x → w.cell? ⟨g, 0 + (j * 4 + i), none⟩ = some x := by
      intro i hi x hx'
      have := hc (j * 4 + i) x ((cks_get h.len hj1 hj2 i hi).trans hx')
      rwa [Addr.add_lit] at this
    have hu := h.each j us[j] cs[j] (List.getElem?_eq_getElem hj2) (List.getElem?_eq_getElem hj1)
    rw [show (cs.map Ck.i)[j] = cs[j].i by simp]
    refine ⟨?_, ?_, ?_, us[j], ?_, ?_⟩
    · have := get 0 (by decide) _ rfl
      rw [Nat.zero_add, Nat.add_zero] at this
      rw [Nat.zero_add]
      exact this
    · exact get 1 (by decide) _ rfl
    · exact get 2 (by decide) _ rfl
    · exact get 3 (by decide) _ rfl
    · exact (Sl.owns hu (hd _ (List.getElem_mem hj1))).mono (Nat.zero_le _) (Nat.le_refl _)
end Go.Proofs.YtepjpdhmjchakaaGreatDoor

/- bytes as a string; bytes.Equal. -/
namespace Go.Proofs.YtepjpdhmjchakaaGreatDoor
open Go.RowKit

/-- A list of bytes as a string's bytes. -/
def strB (l : List UInt8) : ByteArray := ⟨l.toArray⟩
theorem strB_inj {l l' : List UInt8} (h : strB l = strB l') : l = l' := by
  have := congrArg (fun b : ByteArray => b.data.toList) h
  simpa [strB] using this
theorem strB_list (l : List UInt8) : (strB l).toList = l := by
  rw [Lib.toList_data]; rfl
theorem conv_sl {lo hi : Nat} {w : World} {ao : Option Addr} {cap : Nat} {l : List UInt8} (h : SlC lo hi f8 w ao cap l) :
    (convert 24 9 (.slice ao l.length cap)).run Tryz.prog w = .ok (.string (strB l)) w := by
  cases hl : l with
  | nil =>
    rw [List.length_nil, run_convert_bytes_string w 24 9 5 _ 0 cap Tryz.underlying24 Tryz.underlying5 Tryz.underlying9]
    cases ao <;> simp [Conv.bytesToString, loadCells]
    all_goals rfl
  | cons a r =>
    obtain ⟨b, off, rfl, _, _, hc⟩ := h.cells (by rw [hl]; simp)
    rw [← hl]
    have this := run_convert_bytes_arg (P := Tryz.prog) w 24 5 Tryz.underlying24 Tryz.underlying5 b off l.length cap (l.map fun x => (x.toNat : Int)) (by simp) (fun i hi => by
      rw [hc i hi]
      simp [List.getD, hi, f8, W8]) 9 Tryz.underlying9
    rw [this]
    suffices e : strOfNums (l.map fun x => (x.toNat : Int)) = strB l by rw [e]
    unfold strB
    apply ByteArray.ext
    apply Array.toList_inj.1
    rw [strOfNums_data, List.map_map]
    conv => rhs; rw [← List.map_id l]
    apply List.map_congr_left
    intro x _
    simp

theorem equal_any (lo hi lo' hi' : Nat) (w : World) (v v' : Value) (l l' : List UInt8) (hv : Sl lo hi f8 w v l) (hv' : Sl lo' hi' f8 w v' l') :
    Calls Tryz.prog 99 #[v, v'] w fun e w' => e = .returned (.bool (sameB l l')) ∧ w' = w := by
  obtain ⟨ao, cap, rfl, hv⟩ := hv
  obtain ⟨ao', cap', rfl, hv'⟩ := hv'
  have k1 := conv_sl hv
  have k2 := conv_sl hv'
  go_enter Tryz.func99, Tryz.ntmps99
  go_wp2
  go_ret
  refine ⟨?_, rfl⟩
  show Ending.returned (Value.bool ((strB l).toList == (strB l').toList)) = _
  rw [strB_list, strB_list]
  unfold sameB
  by_cases e : l = l'
  · subst e; simp
  · simp [e]
end Go.Proofs.YtepjpdhmjchakaaGreatDoor

/- A list of samples, cut in pieces of 120: the plain law. -/
namespace Go.Proofs.YtepjpdhmjchakaaGreatDoor
open Go.RowKit Bt
namespace Gz

/-- Samples in bounds, rising. -/
structure Good (l : List Smp) : Prop where
  far : ∀ s ∈ l, -far ≤ s.t ∧ s.t ≤ far ∧ s.v < 18446744073709551616
  rise : ∀ (i : Nat) (a b : Smp), l[i]? = some a → l[i + 1]? = some b → a.t < b.t
theorem Good.pre {l m : List Smp} (h : Good (l ++ m)) : Good l := by
  refine ⟨fun x hx => h.far x (by simp [hx]), fun i a b ha hb => ?_⟩
  have h1 := (List.getElem?_eq_some_iff.1 ha).1
  have h2 := (List.getElem?_eq_some_iff.1 hb).1
  exact h.rise i a b (by rw [List.getElem?_append_left h1]; exact ha) (by rw [List.getElem?_append_left h2]; exact hb)
theorem Good.suf {l m : List Smp} (h : Good (l ++ m)) : Good m := by
  refine ⟨fun x hx => h.far x (by simp [hx]), fun i a b ha hb => ?_⟩
  exact h.rise (l.length + i) a b (by rw [List.getElem?_append_right (by omega)]; simpa using ha) (by rw [List.getElem?_append_right (by omega), show l.length + i + 1 - l.length = i + 1 by omega]; exact hb)
theorem Good.fine {l : List Smp} (h : Good l) (hn : l.length ≤ 120) : Fine l := ⟨h.far, h.rise, hn⟩

/-- What an appender gives as its chunk. -/
def ckOf (a : Ap) : Ck := ⟨a.first, a.t, a.n, pack a.L⟩
/-- The second loop's turn. -/
def cutStep (st : List Ck × Ap) (s : Smp) : List Ck × Ap := if st.2.n = 120 then (st.1 ++ [ckOf st.2], Ap.new.add s) else (st.1, st.2.add s)
def cutFrom (l : List Smp) : List Ck × Ap := l.foldl cutStep ([], Ap.new)
/-- All chunks of a list. -/
def cut (l : List Smp) : List Ck := if 0 < (cutFrom l).2.n then (cutFrom l).1 ++ [ckOf (cutFrom l).2] else (cutFrom l).1
theorem cutFrom_snoc (l : List Smp) (s : Smp) : cutFrom (l ++ [s]) = cutStep (cutFrom l) s := by simp [cutFrom]

/-- Behind l: the pieces and what is left. -/
def At (l : List Smp) (st : List Ck × Ap) : Prop := ∃ (P : List (List Smp)) (c : List Smp), l = P.flatten ++ c ∧ (∀ p ∈ P, Fine p ∧ p.length = 120) ∧ Fine c ∧ (c = [] → P = []) ∧ st = (P.map (fun p => ckOf (Ap.all p)), Ap.all c)
theorem At.nil : At [] ([], Ap.new) := ⟨[], [], rfl, fun p hp => (by cases hp), ⟨fun s hs => (by cases hs), fun i a b h => (by simp at h), by simp⟩, fun _ => rfl, rfl⟩
theorem At.snoc {l : List Smp} {s : Smp} {st : List Ck × Ap} (h : At l st) (hg : Good (l ++ [s])) : At (l ++ [s]) (cutStep st s) := by
  obtain ⟨P, c, rfl, hP, hc, hn, rfl⟩ := h
  unfold cutStep
  simp only
  rw [all_n hc]
  by_cases h1 : c.length = 120
  · rw [if_pos h1]
    refine ⟨P ++ [c], [s], by simp, fun p hp => ?_, (hg.suf).fine (by simp), by simp, by simp [Ap.all]⟩
    rcases List.mem_append.1 hp with hp | hp
    · exact hP p hp
    · simp at hp; subst hp; exact ⟨hc, h1⟩
  · rw [if_neg h1]
    refine ⟨P, c ++ [s], by simp, hP, ?_, by simp, by rw [Ap.all_snoc]⟩
    rw [List.append_assoc] at hg
    exact hg.suf.fine (by have := hc.len; simp; omega)
theorem at_all : ∀ (n : Nat) (l : List Smp), l.length = n → Good l → At l (cutFrom l)
  | 0, l, hl, _ => by
    obtain rfl := List.eq_nil_of_length_eq_zero hl
    exact At.nil
  | n + 1, l, hl, hg => by
    obtain ⟨l, s, rfl⟩ := snoc_ex l (by intro e; subst e; simp at hl)
    rw [cutFrom_snoc]
    exact (at_all n l (by simpa using hl) hg.pre).snoc hg
/-- The appender that the next sample comes to takes it. -/
theorem At.app {l : List Smp} {s : Smp} {st : List Ck × Ap} (h : At l st) (hg : Good (l ++ [s])) : (if st.2.n = 120 then Ap.new else st.2).app s = ((if st.2.n = 120 then Ap.new else st.2).add s, 0) ∧ st.2.ok ∧ (if st.2.n = 120 then Ap.new else st.2).ok := by
  obtain ⟨P, c, rfl, hP, hc, hn, rfl⟩ := h
  have hs := hg.far s (by simp)
  simp only
  refine ⟨?_, all_ok hc, by split; exact Ap.new_ok; exact all_ok hc⟩
  unfold Ap.app
  rw [if_neg (by omega)]
  by_cases h1 : (Ap.all c).n = 120
  · rw [if_pos h1, if_neg (by simp [Ap.new]), if_neg (by simp [Ap.new])]
  · rw [if_neg h1, if_neg ?_, if_neg h1]
    rintro ⟨h2, h3⟩
    rw [all_n hc] at h2
    obtain ⟨d, b, rfl⟩ := snoc_ex c (by intro e; subst e; simp at h2)
    rw [((all_has _ _ rfl hc).2.2 b (by simp)).1] at h3
    have := hg.rise (P.flatten.length + d.length) b s (by simp) (by rw [List.getElem?_append_right (by simp; omega), show P.flatten.length + d.length + 1 - (P.flatten ++ (d ++ [b])).length = 0 by simp; omega]; rfl)
    omega
/-- The pieces of a list. -/
theorem cut_pieces {l : List Smp} (hg : Good l) : ∃ P : List (List Smp), P.flatten = l ∧ (∀ p ∈ P, Fine p) ∧ cut l = P.map (fun p => ckOf (Ap.all p)) := by
  obtain ⟨P, c, rfl, hP, hc, hn, e⟩ := at_all _ l rfl hg
  unfold cut
  rw [e]
  simp only
  rw [all_n hc]
  by_cases h : 0 < c.length
  · rw [if_pos h]
    refine ⟨P ++ [c], by simp, fun p hp => ?_, by simp⟩
    rcases List.mem_append.1 hp with hp | hp
    · exact (hP p hp).1
    · simp at hp; subst hp; exact hc
  · rw [if_neg h]
    obtain rfl := List.eq_nil_of_length_eq_zero (by omega : c.length = 0)
    exact ⟨P, by simp, fun p hp => (hP p hp).1, rfl⟩
/-- Unlike lists have unlike chunks. -/
theorem cut_inj {l m : List Smp} (hl : Good l) (hm : Good m) (h : cut l = cut m) : l = m := by
  obtain ⟨P, rfl, hP, e1⟩ := cut_pieces hl
  obtain ⟨Q, rfl, hQ, e2⟩ := cut_pieces hm
  rw [e1, e2] at h
  clear e1 e2 hl hm
  congr 1
  induction P generalizing Q with
  | nil => cases Q with
    | nil => rfl
    | cons q Q => simp at h
  | cons p P ih => cases Q with
    | nil => simp at h
    | cons q Q =>
      simp only [List.map_cons, List.cons.injEq] at h
      have hp := hP p (by simp)
      have hq := hQ q (by simp)
      have e := h.1
      simp only [ckOf, Ck.mk.injEq] at e
      rw [all_n hp, all_n hq] at e
      rw [all_inj hp hq e.2.2.1 e.2.2.2, ih (fun p h => hP p (by simp [h])) Q h.2 (fun q h => hQ q (by simp [h]))]
end Gz
end Go.Proofs.YtepjpdhmjchakaaGreatDoor

/- Encode's state in memory: the list of chunks so far, the appender. -/
namespace Go.Proofs.YtepjpdhmjchakaaGreatDoor
open Go.RowKit
set_option linter.unusedVariables false

/-- A good list's chunks are small. -/
theorem cut_small {l : List Gz.Smp} (h : Gz.Good l) : ∀ c ∈ Gz.cut l, c.d.length ≤ 140737488355328 := by
  obtain ⟨P, _, hP, e⟩ := Gz.cut_pieces h
  rw [e]
  intro c hc
  obtain ⟨p, hp, rfl⟩ := List.mem_map.1 hc
  have hk := Gz.all_ok (hP p hp)
  have h1 := hk.len
  have h2 := hk.n
  have h3 := Bt.pack_len (Gz.Ap.all p).L
  show (Bt.pack (Gz.Ap.all p).L).length ≤ _
  omega
structure En (w : World) (base : Nat) (v : Value) (us : List Value) (P B : Nat) (r : Option Nat) (st : List Ck × Gz.Ap) : Prop where
  ap : Apm w P B r st.2
  row : CRow w base v us st.1
  loP : base ≤ P
  loB : base ≤ B
  lor : ∀ k, r = some k → base ≤ k
  off : ∀ u ∈ us, ∀ k, u.ownBlock = some k → r ≠ some k
theorem typ_ne {w : World} {k P : Nat} {e e' : TypeId} {cs cs' : Array Value} {z z' : Nat × Nat} (h : w.heap[k]? = some (.cells cs e z)) (h' : w.heap[P]? = some (.cells cs' e' z')) (hne : e ≠ e') : k ≠ P := by
  rintro rfl
  rw [h] at h'
  injection h' with h'
  injection h' with _ h'
  exact hne h'
section
variable {w w' w1 w2 : World} {base P B : Nat} {v v' : Value} {us : List Value} {r r' : Option Nat} {st : List Ck × Gz.Ap} {cs : List Ck}
theorem En.keep (h : En w base v us P B r st) (hg : Ga P B r w w') : CRow w' base v us st.1 := by
  obtain ⟨⟨uu, hB, hown, hr⟩, hne⟩ := h.ap.wr
  have key : ∀ k, k < w.heap.size → k ≠ P → k ≠ B → r ≠ some k → w'.heap[k]? = w.heap[k]? := fun k a b c d => hg.block k a b c (fun e => d e.symm)
  refine h.row.same (fun k hk => ?_) (fun u hu k hk => ?_)
  · obtain ⟨cs, hc⟩ := own_block h.row.row k hk
    exact key k (h.row.lt.1 k hk).2 (typ_ne hc h.ap.top (by decide)) (typ_ne hc hB (by decide)) (fun e => own_apart' h.row.row hown (by decide) k hk (hr.trans e))
  · obtain ⟨i, hi⟩ := List.getElem?_of_mem hu
    obtain ⟨c, _, h2⟩ := h.row.at hi
    obtain ⟨cs, hc⟩ := own_block h2 k hk
    exact key k (h.row.lt.2 u hu k hk).2 (typ_ne hc h.ap.top (by decide)) (typ_ne hc hB (by decide)) (h.off u hu k hk)
theorem En.app (h : En w base v us P B r st) {a' : Gz.Ap} (hg : Ga P B r w w') (ha : Apm w' P B r' a') (hr : Anew w r r') : En w' base v us P B r' (st.1, a') :=
  ⟨ha, h.keep hg, h.loP, h.loB, fun k hk => (hr k hk).elim (h.lor k) (fun h2 => by have := h.ap.lts.1; have := h.loP; omega), fun u hu k hk e => (hr k e).elim (h.off u hu k hk) (fun h2 => by have := (h.row.lt.2 u hu k hk).2; omega)⟩
theorem En.below (h : En w base v us P B r st) (hb : Below w.heap.size w w') : En w' base v us P B r st := ⟨h.ap.below hb, h.row.below hb (Nat.le_refl _), h.loP, h.loB, h.lor, h.off⟩
theorem En.lay (h : En w base v us P B r st) (hb : Below w.heap.size w w1) {u : Value} {c : Ck} (hu : w1.ownsRow w.heap.size 5 1 u c.d.length (c.d.map f8))
    (hrow : w2.ownsRow base 26 4 v' (st.1.length + 1) (cks st.1 us ++ ckc c u)) (g : w1.grownBy w2 v.ownBlock) : CRow w2 base v' (us ++ [u]) (st.1 ++ [c]) :=
  (h.row.below hb (Nat.le_refl _)).snoc (own_low hu (by have := h.ap.lts.1; have := h.loP; omega)) (fun x hx k hk e => by have := (h.row.lt.2 x hx k hk).2; have := own_from hu k e; omega) hrow g
theorem En.fresh (hc : CRow w base v us cs) (hbase : base ≤ w.heap.size) (hb : Below w.heap.size w w') (ha : Apm w' (w.heap.size + 1) w.heap.size none Gz.Ap.new) : En w' base v us (w.heap.size + 1) w.heap.size none (cs, Gz.Ap.new) :=
  ⟨ha, hc.below hb (Nat.le_refl _), by omega, hbase, (fun k hk => by cases hk), (fun u hu k hk e => by cases e)⟩
end
end Go.Proofs.YtepjpdhmjchakaaGreatDoor

/- SameSamples. -/
namespace Go.Proofs.YtepjpdhmjchakaaGreatDoor
open Go.RowKit
set_option linter.unusedVariables false

theorem smGuardType : Tryz.prog.eqGuardType Tryz.prog.depth 79 = false := by kernel_rfl
set_option maxRecDepth 100000 in
theorem smEqual (w : World) (a c : Int) (b d : Int) : (Op.equalIn 10000 79 (.agg #[.int .i64 a, .int .u64 b]) (.agg #[.int .i64 c, .int .u64 d])).run Tryz.prog w = .ok (a == c && b == d) w := by
  have hS : Tryz.prog.underlying 79 = some (.struct (Tryz.prog.fieldsOf 79)) := by kernel_rfl
  have hp : Tryz.prog.stoodInHeld 79 = false := by kernel_rfl
  rw [show (10000 : Nat) = 9999 + 1 from rfl, run_equalIn_agg w 9999 _ _ _ hS hp]
  simp only [Program.fieldsOf, Tryz.underlying79]
  go_simp
  by_cases h1 : a = c <;> by_cases h2 : b = d <;> simp [h1, h2]
theorem smGuard (w : World) (x y : Operand) (xs ys : Array Value) : (eqGuard .neq 79 x y (.agg xs) (.agg ys)).run Tryz.prog w = .ok () w := run_eqGuard_agg w .neq _ x y xs ys smGuardType
theorem smNeq (w : World) (a c : Int) (b d : Int) : (binOp .neq 79 (.agg #[.int .i64 a, .int .u64 b]) (.agg #[.int .i64 c, .int .u64 d])).run Tryz.prog w = .ok (.bool (!(a == c && b == d))) w := by
  rw [run_neq_struct, smEqual]; rfl
attribute [local go_sem] smGuard smNeq
theorem smp_ext {a b : Gz.Smp} (h1 : a.t = b.t) (h2 : a.v = b.v) : a = b := by cases a; cases b; simp_all

set_option maxHeartbeats 1000000 in
theorem sameSm_any (hi hi' : Nat) (w : World) (ao ao' : Option Addr) (cap cap' : Nat) (l l' : List Gz.Smp) (hv : Sms hi w ao cap l) (hv' : Sms hi' w ao' cap' l') :
    Calls Tryz.prog 18 #[.slice ao l.length cap, .slice ao' l'.length cap'] w fun e w' => ∃ b, e = .returned (.bool b) ∧ (b = true ↔ l = l') ∧ ∃ n, w' = w.drewN n := by
  obtain ⟨hl, hc⟩ := hv
  obtain ⟨hl', hc'⟩ := hv'
  have hl2 : l.length ≤ 9223372036854775807 := Nat.le_trans hl (by decide)
  by_cases hlen : l.length = l'.length
  · have hb : ((l.length : Int) != (l'.length : Int)) = false := by rw [hlen]; simp
    have HL := Lib.hid hlen
    clear hlen
    go_enter Tryz.func18, Tryz.ntmps18
    go_wp2
    go_loopw [5] (fun i wr => ∃ k n : Nat, k ≤ l.length ∧ i = .int .i64 k ∧ l.take k = l'.take k ∧ wr = w.drewN n) (fun i _ => l.length - (intOf i).toNat)
    case atStart => exact ⟨0, 0, by omega, rfl, rfl, rfl⟩
    case round =>
      obtain ⟨k, n, hk, rfl, ht, rfl⟩ := hrel
      have HT := Lib.hid ht
      clear ht
      by_cases hlt : k < l.length
      · obtain ⟨b, off, rfl, _, hcell⟩ := hc (by intro e; subst e; simp at hlt)
        have hlt' : k < l'.length := by have := HL.out; omega
        obtain ⟨b', off', rfl, _, hcell'⟩ := hc' (by intro e; subst e; simp at hlt')
        have hc1 := (hcell k hlt).c0
        have hd1 := (hcell k hlt).c1
        have hc2 := (hcell' k hlt').c0
        have hd2 := (hcell' k hlt').c1
        have i1 : (0 : Int) ≤ (k : Int) ∧ (k : Int) < (l.length : Int) := by omega
        have i2 : (0 : Int) ≤ (k : Int) ∧ (k : Int) < (l'.length : Int) := by omega
        clear hcell hcell' hc hc'
        go_wp2
        by_cases he : l[k].t = l'[k].t ∧ l[k].v = l'[k].v
        · have he1 : (l[k].v : Int) = (l'[k].v : Int) := by rw [he.2]
          have HE := Lib.hid he
          have HE1 := Lib.hid he1
          clear he he1
          refine wp_region_quiet_lit (by kernel_rfl) (by kernel_rfl) ?_
          iterate 8 (go_big_quiet_step (fail))
          refine wpQuiet_step fun K hK => ?_
          rw [if_pos (by kernel_rfl)]
          refine ⟨.bool false, ?_, hK _ ?_⟩
          · intro w' hw'
            unfold Oper.quietAt
            go_simp
            simp [HE.out.1, HE1.out]
          refine wpQuiet_nil ?_
          intro _ hw'
          obtain ⟨nq, hw''⟩ := hw'
          subst hw''
          go_wp2
          go_roundw
          case rel =>
            exact ⟨k + 1, _, by omega, by go_num, by rw [List.take_succ_eq_append_getElem hlt, List.take_succ_eq_append_getElem hlt', HT.out, smp_ext HE.out.1 HE.out.2], rfl⟩
          case measure => simp [intOf]; omega
        · have HE := Lib.hid he
          clear he
          refine wp_region_quiet_lit (by kernel_rfl) (by kernel_rfl) ?_
          iterate 8 (go_big_quiet_step (fail))
          refine wpQuiet_step fun K hK => ?_
          rw [if_pos (by kernel_rfl)]
          refine ⟨.bool true, ?_, hK _ ?_⟩
          · intro w' hw'
            unfold Oper.quietAt
            go_simp
            by_cases h1 : l[k].t = l'[k].t
            · have h2 : ¬ (l[k].v : Int) = (l'[k].v : Int) := fun e => HE.out ⟨h1, by omega⟩
              rw [if_pos h1, if_neg h2]
              exact ⟨rfl, rfl⟩
            · rw [if_neg h1]
              exact ⟨rfl, rfl⟩
          refine wpQuiet_nil ?_
          intro _ hw'
          obtain ⟨nq, hw''⟩ := hw'
          subst hw''
          go_wp2
          go_ret
          refine ⟨false, rfl, ⟨fun h => (by cases h), fun e => ?_⟩, n + nq, rfl⟩
          subst e
          exact absurd ⟨rfl, rfl⟩ HE.out
      · have e : k = l.length := by omega
        subst e
        have e2 : l = l' := by
          have h1 := HT.out
          have h2 := HL.out
          rw [List.take_length, h2, List.take_length] at h1
          exact h1
        subst e2
        clear HT HL hb hc hc'
        go_wp2
        go_ret
        exact ⟨rfl, _, rfl⟩
  · have hb : ((l.length : Int) != (l'.length : Int)) = true := by simp; omega
    go_enter Tryz.func18, Tryz.ntmps18
    go_wp2
    go_ret
    exact ⟨false, rfl, by simp; intro e; exact hlen (by rw [e]), 0, rfl⟩
end Go.Proofs.YtepjpdhmjchakaaGreatDoor
