import Derived.Test.YtepjpdhmjchakaaGreatDoorP12
import Derived.Test.YtepjpdhmjchakaaGreatDoorQ1
import Derived.Test.YtepjpdhmjchakaaGreatDoorP1
import Derived.ProofKit
import Derived.OpenShut
import Derived.Deep.Grids
import Derived.SizedLaws
/- What the chapter's examples fix: known returns true. Condition: the library's table of trailing noughts (TabW). -/
namespace Go.Proofs.YtepjpdhmjchakaaGreatDoor
open Go.RowKit
set_option linter.unusedVariables false

/-- Append of an appender of the call's own. -/
theorem app_own (n : Nat) {w : World} {P B : Nat} {r : Option Nat} {a : Gz.Ap} (h : Apm w P B r a) (hok : a.ok) (s : Gz.Smp) (x y : Int) (hx : s.t = x) (hy : (s.v : Int) = y) (hv : s.v < 18446744073709551616) (hT : TabW w) (hP : n ≤ P) (hB : n ≤ B) (hr : ∀ k, r = some k → n ≤ k) (h1 : 1 < n) (a' : Gz.Ap) (E : Int) (he : a.app s = (a', E)) :
    Calls Tryz.prog 24 #[.pointer (some ⟨P, 0, none⟩), .agg #[.int .i64 x, .int .u64 y]] w fun e w' => e = .returned (.int .u16 E) ∧ ∃ r', Apm w' P B r' a' ∧ Below n w w' ∧ (∀ k, r' = some k → n ≤ k) ∧ TabW w' := by
  subst hx hy
  have hnw : n ≤ w.heap.size := by have := h.lts.1; omega
  refine (app_any h hok s hv hT (by omega) (by omega) (fun e => by have := hr 1 e; omega)).mono ?_
  rintro e w' ⟨rfl, r', h2, h3, h4⟩
  rw [he] at h2 ⊢
  have hb := h3.below hnw hP hB hr
  refine ⟨rfl, r', h2, hb, fun k hk => ?_, hT.below hb h1⟩
  rcases h4 k hk with h5 | h5
  · exact hr k h5
  · omega

namespace Gz
def ks0 : Smp := ⟨0, 4607182418800017408⟩
def ks1 : Smp := ⟨10, 4607182418800017408⟩
def ks2 : Smp := ⟨20, 4607182418800017408⟩
def ks3 : Smp := ⟨20, 4611686018427387904⟩
theorem kn0 : Ap.new.app ks0 = (Ap.all [ks0], 0) := by unfold Ap.app; rw [if_neg (by decide +kernel), if_neg (by decide +kernel), if_neg (by decide +kernel)]; rfl
theorem kn1 : (Ap.all [ks0]).app ks1 = (Ap.all [ks0, ks1], 0) := by unfold Ap.app; rw [if_neg (by decide +kernel), if_neg (by decide +kernel), if_neg (by decide +kernel)]; rfl
theorem kn2 : (Ap.all [ks0, ks1]).app ks2 = (Ap.all [ks0, ks1, ks2], 0) := by unfold Ap.app; rw [if_neg (by decide +kernel), if_neg (by decide +kernel), if_neg (by decide +kernel)]; rfl
theorem kn3 : (Ap.all [ks0, ks1, ks2]).app ks3 = (Ap.all [ks0, ks1, ks2], 100) := by unfold Ap.app; rw [if_neg (by decide +kernel), if_pos (by decide +kernel)]
theorem knf : (Ap.all [ks0, ks1, ks2]).t = 20 ∧ (Ap.all [ks0, ks1, ks2]).n = 3 := by decide +kernel
theorem knok (l : List Smp) (h : l = [ks0] ∨ l = [ks0, ks1] ∨ l = [ks0, ks1, ks2]) : (Ap.all l).ok := by
  refine all_ok ⟨?_, ?_, ?_⟩ <;> rcases h with rfl | rfl | rfl
  · decide +kernel
  · decide +kernel
  · decide +kernel
  · intro i a b ha hb; rcases i with _ | i <;> simp at hb
  · intro i a b ha hb; rcases i with _ | _ | i <;> simp at ha hb; subst ha hb; decide
  · intro i a b ha hb; rcases i with _ | _ | _ | i <;> simp at ha hb <;> subst ha hb <;> decide
  · decide
  · decide
  · decide
theorem knb : Bt.pack (Ap.all [ks0, ks1, ks2]).L = [0, 63, 240, 0, 0, 0, 0, 0, 0, 10, 0] := by decide +kernel
end Gz

set_option maxHeartbeats 2000000 in
set_option maxRecDepth 100000 in
theorem gzKnown_any (w : World) (hT : TabW w) : Calls Tryz.prog 16 #[] w fun e w' => e = .returned (.bool true) ∧ Below w.heap.size w w' := by
  have hlb : 1 < w.heap.size := block_lt_of_cell (hT 0 (by omega))
  have HT := Lib.hid hT
  clear hT
  go_enter Tryz.func16, Tryz.ntmps16
  go_wp2_with fail
  refine (gnew_any _).mono ?_
  rintro e w1 ⟨rfl, ha1, hb1⟩
  have HA1 := Lib.hid ha1
  have HB1 := Lib.hid hb1
  have HT1 := Lib.hid (HT.out.below hb1 hlb)
  clear ha1 hb1
  go_wp2_with fail
  refine Calls.mono (by exact app_own w.heap.size HA1.out Gz.Ap.new_ok Gz.ks0 0 4607182418800017408 (by decide) (by decide +kernel) (by decide +kernel) HT1.out (by omega) (Nat.le_refl _) (by simp) hlb _ _ Gz.kn0) ?_
  rintro e w2 ⟨rfl, r2, ha2, hb2, hr2, ht2⟩
  have HA2 := Lib.hid ha2
  have HB2 := Lib.hid (HB1.out.trans hb2)
  have HT2 := Lib.hid ht2
  have HR2 := Lib.hid hr2
  clear ha2 hb2 hr2 ht2
  go_wp2_with fail
  refine Calls.mono (by exact app_own w.heap.size HA2.out (Gz.knok _ (.inl rfl)) Gz.ks1 10 4607182418800017408 (by decide) (by decide +kernel) (by decide +kernel) HT2.out (by omega) (Nat.le_refl _) HR2.out hlb _ _ Gz.kn1) ?_
  rintro e w3 ⟨rfl, r3, ha3, hb3, hr3, ht3⟩
  have HA3 := Lib.hid ha3
  have HB3 := Lib.hid (HB2.out.trans hb3)
  have HT3 := Lib.hid ht3
  have HR3 := Lib.hid hr3
  clear ha3 hb3 hr3 ht3
  go_wp2_with fail
  refine Calls.mono (by exact app_own w.heap.size HA3.out (Gz.knok _ (.inr (.inl rfl))) Gz.ks2 20 4607182418800017408 (by decide) (by decide +kernel) (by decide +kernel) HT3.out (by omega) (Nat.le_refl _) HR3.out hlb _ _ Gz.kn2) ?_
  rintro e w4 ⟨rfl, r4, ha4, hb4, hr4, ht4⟩
  have HA4 := Lib.hid ha4
  have HB4 := Lib.hid (HB3.out.trans hb4)
  have HT4 := Lib.hid ht4
  have HR4 := Lib.hid hr4
  clear ha4 hb4 hr4 ht4
  go_wp2_with fail
  refine Calls.mono (by exact app_own w.heap.size HA4.out (Gz.knok _ (.inr (.inr rfl))) Gz.ks3 20 4611686018427387904 (by decide) (by decide +kernel) (by decide +kernel) HT4.out (by omega) (Nat.le_refl _) HR4.out hlb _ _ Gz.kn3) ?_
  rintro e w5 ⟨rfl, r5, ha5, hb5, hr5, ht5⟩
  have HA5 := Lib.hid ha5
  have HB5 := Lib.hid (HB4.out.trans hb5)
  clear ha5 hb5 hr5 ht5
  go_wp2_with fail
  refine (chunk_any HA5.out (Gz.knok _ (.inr (.inr rfl))) (by decide +kernel)).mono ?_
  rintro e w6 ⟨v6, rfl, ho6, hb6⟩
  rw [Gz.knf.1, Gz.knf.2]
  rw [Gz.knb] at ho6
  unfold chV
  obtain ⟨ao6, cap6, rfl⟩ := own_slice ho6
  have HO6 := Lib.hid ho6
  have HB6 := Lib.hid (HB5.out.trans (hb6.mono HB5.out.size))
  clear ho6 hb6
  obtain ⟨ao7, cap7, hv7, hc7⟩ := Sl.owns (f := f8) HO6.out (by decide)
  injection hv7 with q1 q2 q3
  subst q1 q3
  generalize (Gz.Ap.all [Gz.ks0, Gz.ks1, Gz.ks2]).first = F at *
  have kk : (convert 24 9 (.slice ao6 11 cap6)).run Tryz.prog (w6.alloc (.cells #[.int .i64 F, .int .i64 20, .int .i64 3, .slice ao6 11 cap6] 26)) = .ok (.string ⟨#[0, 63, 240, 0, 0, 0, 0, 0, 0, 10, 0]⟩) (w6.alloc (.cells #[.int .i64 F, .int .i64 20, .int .i64 3, .slice ao6 11 cap6] 26)) :=
    conv_sl (hc7.below (B := w6.heap.size) ((Below.refl _ _).alloc (Nat.le_refl _) _) (Nat.le_refl _))
  clear hc7
  go_wp2_with fail
  go_ret
  exact ⟨rfl, HB6.out.alloc HB6.out.size _⟩
end Go.Proofs.YtepjpdhmjchakaaGreatDoor

/- From a slice's reading as the row has it to its bytes. -/
namespace Go.Proofs.YtepjpdhmjchakaaGreatDoor
open Go.RowKit

/-- What the walk is told of a slice of integers that came in. -/
def IsRow (k : IntKind) (w : World) (a : Option Addr) (len cap : Nat) (zs : List Int) : Prop :=
  (a = none ∧ len = 0 ∧ cap = 0 ∧ zs = []) ∨
  ∃ x, a = some x ∧ len ≤ cap ∧ cap ≤ maxLen ∧ zs.length = cap ∧ (∀ i, i < zs.length → w.cell? (x.add i) = some (.int k (zs.getD i 0))) ∧ ∀ n ∈ zs, (Lit.int k n).wf = true

theorem of_wf8 {z : Int} (h : (Lit.int .u8 z).wf = true) : W8 (UInt8.ofNat z.toNat) = z := by
  have h1 : 0 ≤ z ∧ z ≤ 255 := by
    have := h; simp [Lit.wf, IntKind.min, IntKind.max, IntKind.signed, IntKind.bits] at this; omega
  unfold W8
  rw [UInt8.toNat_ofNat']
  omega
theorem of_wf32 {z : Int} (h : (Lit.int .u32 z).wf = true) : ∃ s : BitVec 32, z = W32 s := by
  have h1 : 0 ≤ z ∧ z ≤ 4294967295 := by
    have := h; simp [Lit.wf, IntKind.min, IntKind.max, IntKind.signed, IntKind.bits] at this; omega
  refine ⟨BitVec.ofNat 32 z.toNat, ?_⟩
  unfold W32
  rw [BitVec.toNat_ofNat]
  omega

theorem IsRow.sl {w : World} {a : Option Addr} {len cap : Nat} {zs : List Int} (h : IsRow .u8 w a len cap zs) (hlen : len ≤ 140737488355328) :
    ∃ l : List UInt8, l.length = len ∧ SlC 0 w.heap.size f8 w a cap l := by
  rcases h with ⟨rfl, rfl, rfl, rfl⟩ | ⟨x, rfl, hlc, hm, hz, hcell, hwf⟩
  · exact ⟨[], rfl, by simp, fun _ => rfl, fun h => absurd rfl h, by simp⟩
  · refine ⟨(zs.take len).map (fun z => UInt8.ofNat z.toNat), by simp; omega, by simp; omega, (fun h => by cases h), fun hne => ?_, by simp; omega⟩
    have h0 : 0 < zs.length := by
      rcases Nat.eq_zero_or_pos zs.length with h | h
      · rw [List.length_eq_zero_iff] at h; subst h; simp at hne
      · exact h
    obtain ⟨b, off, rfl, hc⟩ := ints_at hcell h0
    refine ⟨b, off, rfl, Nat.zero_le _, block_lt_of_cell (hc 0 h0), fun j hj => ?_⟩
    have hj' : j < zs.length := by simp at hj; omega
    rw [hc j hj']
    have e : zs.getD j 0 = zs[j] := by simp [List.getD, hj']
    rw [e]
    simp only [List.getElem_map, List.getElem_take, f8]
    rw [of_wf8 (hwf _ (List.getElem_mem hj'))]
end Go.Proofs.YtepjpdhmjchakaaGreatDoor

/- An argument that is a list of chunks. -/
namespace Go.Proofs.YtepjpdhmjchakaaGreatDoor
open Go.RowKit Go.ChangeShapes Go.WideShapes
set_option linter.unusedVariables false

theorem weights_all {H : Type} {P : Program} {e : TypeId} : ∀ {l : List (DataW H)} {d : DataW H}, d ∈ l → ∀ n ∈ d.weights P e, n ∈ DataW.weightsAll P e l
  | d' :: r, d, hd, n, hn => by
    simp only [DataW.weightsAll, List.mem_append]
    rcases List.mem_cons.1 hd with rfl | h
    · exact Or.inl hn
    · exact Or.inr (weights_all h n hn)
theorem weights_elem {H : Type} {P : Program} {t e : TypeId} {elems spare : List (DataW H)} (hu : P.underlying t = some (.slice e)) {d : DataW H} (hd : d ∈ elems) : ∀ n ∈ d.weights P e, n ∈ (DataW.slice elems spare).weights P t := by
  intro n hn
  simp only [DataW.weights, hu, List.mem_cons, List.mem_append]
  exact Or.inr (Or.inl (weights_all hd n hn))
theorem weights_field {H : Type} {P : Program} {t : TypeId} {fs : Array Field} {parts : List (DataW H)} (hu : P.underlying t = some (.struct fs)) {j : Nat} {q : TypeId} {d : DataW H} (ht : (fs.toList.map (·.type))[j]? = some q) (hd : parts[j]? = some d) : ∀ n ∈ d.weights P q, n ∈ (DataW.agg parts).weights P t := by
  intro n hn
  simp only [DataW.weights, hu]
  exact DataW.weights_mem_each ht hd n hn
theorem fieldsChk : fieldsOf Tryz.prog 26 = some [(2, 0), (2, 1), (3, 2), (24, 3)] := by kernel_rfl
theorem by5 : Tryz.prog.bytesOf 5 = 1 := by kernel_rfl
/-- What a slice that came in has besides. -/
theorem slice_facts {H : Type} {enc : TypeId × Value → H} {w : World} {spare : Nat → Bool} {held : Bool} {fuel : Nat} {t e : TypeId} (hu : Tryz.prog.underlying t = some (.slice e)) {ao : Option Addr} {n cap : Nat} {x : DataW H × List MemPlace} (h : DataW.trod enc Tryz.prog w 0 spare held fuel t [.slice ao n cap] = some x) : (ao = none → cap = 0) ∧ n ≤ cap := by
  rcases Go.Deep.open_slice hu h with ⟨h0, _⟩ | ⟨a, len, cap', m, n', D, Pl, hcs, hb, hl, hm, hmm, hx, hi⟩
  · injection h0 with h0 _
    injection h0 with h1 h2 h3
    exact ⟨fun _ => h3, by omega⟩
  · injection hcs with hcs _
    injection hcs with h1 h2 h3
    exact ⟨(fun e => by rw [h1] at e; cases e), by omega⟩
/-- A slice of bytes, opened. -/
theorem open_bytesW {H : Type} {enc : TypeId × Value → H} {w : World} {fuel : Nat} {v : Value} {x : DataW H × List MemPlace} (h : DataW.trod enc Tryz.prog w 0 (fun _ => true) true fuel 24 [v] = some x) (hz : ∀ n ∈ x.1.weights Tryz.prog 24, n ≤ reachBytes) :
    ∃ a cap l, v = .slice a (List.length l) cap ∧ SlC 0 w.heap.size f8 w a cap l := by
  rcases open_ints Tryz.underlying24 Tryz.underlying5 (by kernel_rfl) h with ⟨hcs, _⟩ | ⟨a, len, cap, zs, hcs, _, hl, hm, hzs, hx, hcell, hwz⟩
  · injection hcs with hcs _
    exact ⟨none, 0, [], hcs, by simp, fun _ => rfl, fun h => absurd rfl h, by simp⟩
  · injection hcs with hcs _
    have hb := hz ((lits .u8 (zs.take len)).length * 1 + (lits .u8 (zs.drop len)).length * 1 : Nat) (by
      rw [show x.1 = _ from congrArg Prod.fst hx]
      simp only [DataW.weights, Tryz.underlying24, List.mem_cons, by5, Nat.mul_one]
      first | exact .inl rfl | exact .inl trivial)
    have hz' : zs.length = cap := by simpa using hzs
    have hle : len ≤ 140737488351232 := by
      simp only [lits, List.length_map, List.length_take, List.length_drop, reachBytes] at hb
      omega
    obtain ⟨l, hl', hs⟩ := IsRow.sl (.inr ⟨a, rfl, hl, hm, hz', hcell, hwz⟩) (Nat.le_trans hle (by omega))
    subst hl'
    exact ⟨some a, cap, l, hcs, hs⟩

set_option maxRecDepth 100000 in
theorem open_chks {H : Type} {enc : TypeId × Value → H} {w : World} {fuel : Nat} {v : Value} {x : DataW H × List MemPlace} (h : DataW.trod enc Tryz.prog w 0 (fun _ => true) true fuel 23 [v] = some x) (hz : ∀ n ∈ x.1.weights Tryz.prog 23, n ≤ reachBytes) :
    ∃ ao cap l, v = .slice ao (List.length l) cap ∧ Chs w.heap.size w ao cap l := by
  rcases Go.Deep.open_slice Tryz.underlying23 h with ⟨h0, _⟩ | ⟨a, len, cap, m, n, D, Pl, hcs, hb, hl, hm, hmm, hx, hi⟩
  · injection h0 with h0 _
    exact ⟨none, 0, [], h0, by simp, fun h => absurd rfl h⟩
  · injection hcs with hcs _
    obtain ⟨fs, hs, hf⟩ := fields_of fieldsChk
    have hC : Tryz.prog.cellsOf 26 = 4 := by kernel_rfl
    have honeI : Tryz.prog.cellsOf 2 = 1 := by kernel_rfl
    have honeN : Tryz.prog.cellsOf 3 = 1 := by kernel_rfl
    have honeS : Tryz.prog.cellsOf 24 = 1 := by kernel_rfl
    have hlm : len ≤ m := by rw [hmm]; split <;> omega
    have hzD : ∀ i, i < len → ∀ n ∈ (D i).weights Tryz.prog 26, n ≤ reachBytes := fun i hi n hn => hz n (by
      rw [show x.1 = _ from congrArg Prod.fst hx]
      exact weights_elem Tryz.underlying23 (List.mem_map.2 ⟨i, List.mem_range.2 hi, rfl⟩) n hn)
    have hspot : 0 < len → a.spot = none := by
      intro hp
      obtain ⟨cs', hc, ht⟩ := hi 0 (by omega)
      rw [hC] at hc
      obtain ⟨_, hcl, hat⟩ := World.cells?_some hc
      match cs', hcl with
      | [x0, x1, x2, x3], _ =>
      have := World.cell?_spot (hat 0 (by omega))
      simpa [Addr.add] using this
    have key : ∀ i, i < len → ∃ o : Cki, a.spot = none ∧ ChAt w.heap.size w a.block (a.off + i * 4) o := by
      intro i hi'
      obtain ⟨cs', hc, ht⟩ := hi i (by omega)
      rw [hC] at hc
      obtain ⟨_, hcl, hat⟩ := World.cells?_some hc
      obtain ⟨ys, n', hn', hy, hlen, hyl, hff⟩ := DataW.trod_struct hs ht
      have hDi := hzD i hi'
      have hDe : D i = .agg (ys.map (·.1)) := by rw [Prod.ext_iff] at hy; exact hy.1
      match cs', hcl with
      | [x0, x1, x2, x3], _ =>
      match fs, hf with
      | ⟨[f0, f1, f2, f3]⟩, hf =>
      simp at hf
      obtain ⟨⟨t0, o0⟩, ⟨t1, o1⟩, ⟨t2, o2⟩, ⟨t3, o3⟩⟩ := hf
      obtain ⟨y0, y1, y2, y3, rfl⟩ : ∃ y0 y1 y2 y3, ys = [y0, y1, y2, y3] := by
        match ys, hyl with
        | [y0, y1, y2, y3], _ => exact ⟨_, _, _, _, rfl⟩
      have g0 := hff 0 f0 rfl
      have g1 := hff 1 f1 rfl
      have g2 := hff 2 f2 rfl
      have g3 := hff 3 f3 rfl
      rw [t0, o0, honeI] at g0
      rw [t1, o1, honeI] at g1
      rw [t2, o2, honeN] at g2
      rw [t3, o3, honeS] at g3
      have z3 : ∀ n ∈ y3.1.weights Tryz.prog 24, n ≤ reachBytes := fun n hn => hDi n (by rw [hDe]; exact weights_field hs (j := 3) (by simp [t3]) rfl n hn)
      obtain ⟨n0, e0, _, w0⟩ := DataW.trod_int Tryz.underlying2 g0
      obtain ⟨n1, e1, _, w1⟩ := DataW.trod_int Tryz.underlying2 g1
      obtain ⟨n2, e2, _, w2⟩ := DataW.trod_int Tryz.underlying3 g2
      obtain ⟨da, dc, data, e3, w3⟩ := open_bytesW (v := x3) (by simpa using g3) z3
      have p0 : x0 = .int .i64 n0 := by simpa using e0
      have p1 : x1 = .int .i64 n1 := by simpa using e1
      have p2 : x2 = .int .i64 n2 := by simpa using e2
      clear e0 e1 e2
      subst p0 p1 p2 e3
      have q0 := hat 0 (by omega)
      have q1 := hat 1 (by omega)
      have q2 := hat 2 (by omega)
      have q3 := hat 3 (by omega)
      have hsp := hspot (by omega)
      obtain ⟨b, off, sp⟩ := a
      obtain rfl : sp = none := hsp
      simp only [add_plain] at q0 q1 q2 q3
      exact ⟨⟨n0, n1, n2, data⟩, rfl, q0, q1, q2, _, q3, _, _, rfl, w3⟩
    have hall : ∃ l : List Cki, l.length = len ∧ ∀ j (hj : j < l.length), a.spot = none ∧ ChAt w.heap.size w a.block (a.off + j * 4) l[j] := by
      refine ⟨List.ofFn (fun j : Fin len => (key j.val j.isLt).choose), by simp, fun j hj => ?_⟩
      rw [List.getElem_ofFn]
      exact (key j (by simpa using hj)).choose_spec
    obtain ⟨l, hl1, hl2⟩ := hall
    refine ⟨some a, cap, l, by rw [hl1]; exact hcs, by omega, fun hne => ?_⟩
    have hp : 0 < l.length := List.length_pos_iff.2 hne
    obtain ⟨b, off, sp⟩ := a
    obtain rfl : sp = none := (hl2 0 hp).1
    exact ⟨b, off, rfl, block_lt_of_cell (hl2 0 hp).2.c0, fun j hj => (hl2 j hj).2⟩
end Go.Proofs.YtepjpdhmjchakaaGreatDoor
