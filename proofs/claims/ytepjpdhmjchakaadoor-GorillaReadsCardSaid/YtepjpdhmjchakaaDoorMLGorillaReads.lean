import Derived.Test.YtepjpdhmjchakaaDoorMem
import Derived.ProofKit
import Derived.OpenShut
import Derived.Test.YtepjpdhmjchakaaDoorGzOwn
import Derived.Test.YtepjpdhmjchakaaDoorLent
import Derived.Test.YtepjpdhmjchakaaDoorOwnState
import Derived.WalkSpells
import Derived.Deep.RegionHeld3
import Derived.Deep.QuietTactic
import Derived.BigQuiet
import Derived.Test.YtepjpdhmjchakaaDoorRr7
import Derived.Test.YtepjpdhmjchakaaDoorRx3
import Derived.Test.YtepjpdhmjchakaaDoorSameSm
import Derived.Test.YtepjpdhmjchakaaDoorGzKn
import Derived.Test.YtepjpdhmjchakaaDoorRows
import Derived.WalkKit
import Derived.LaidMore
import Derived.Stop.Joined
import Derived.ShutString
import Derived.ChangeOld
import Derived.Below
import Derived.SizedLaws
import Derived.SevenTiedAt
import Derived.Test.YtepjpdhmjchakaaDoorTie
import Derived.Test.YtepjpdhmjchakaaDoorCards
/- From a slice's reading as the row has it to its bytes. -/
namespace Go.Proofs.YtepjpdhmjchakaaDoor
open Go.RowKit

/-- What the walk is told of a slice of integers that came in. -/
def IsRow (k : IntKind) (w : World) (a : Option Addr) (len cap : Nat) (zs : List Int) : Prop :=
  (a = none ∧ len = 0 ∧ cap = 0 ∧ zs = []) ∨
  ∃ x, a = some x ∧ len ≤ cap ∧ cap ≤ maxLen ∧ zs.length = cap ∧ (∀ i, i < zs.length → w.cell? (x.add i) = some (.int k (zs.getD i 0))) ∧ ∀ n ∈ zs, (Lit.int k n).wf = true

theorem of_wf8 {z : Int} (h : (Lit.int .u8 z).wf = true) : W8 (UInt8.ofNat z.toNat) = z := by
  have h1 : 0 ≤ z ∧ z ≤ 255 := by
    have := h; simp [Lit.wf, IntKind.min, IntKind.max, IntKind.signed, IntKind.bits] at this; omega
  unfold W8
  rw [UInt8.toNat_ofNat']
  omega
theorem of_wf32 {z : Int} (h : (Lit.int .u32 z).wf = true) : ∃ s : BitVec 32, z = W32 s := by
  have h1 : 0 ≤ z ∧ z ≤ 4294967295 := by
    have := h; simp [Lit.wf, IntKind.min, IntKind.max, IntKind.signed, IntKind.bits] at this; omega
  refine ⟨BitVec.ofNat 32 z.toNat, ?_⟩
  unfold W32
  rw [BitVec.toNat_ofNat]
  omega

theorem IsRow.sl {w : World} {a : Option Addr} {len cap : Nat} {zs : List Int} (h : IsRow .u8 w a len cap zs) (hlen : len ≤ 140737488355328) :
    ∃ l : List UInt8, l.length = len ∧ SlC 0 w.heap.size f8 w a cap l := by
  rcases h with ⟨rfl, rfl, rfl, rfl⟩ | ⟨x, rfl, hlc, hm, hz, hcell, hwf⟩
  · exact ⟨[], rfl, by simp, fun _ => rfl, fun h => absurd rfl h, by simp⟩
  · refine ⟨(zs.take len).map (fun z => UInt8.ofNat z.toNat), by simp; omega, by simp; omega, (fun h => by cases h), fun hne => ?_, by simp; omega⟩
    have h0 : 0 < zs.length := by
      rcases Nat.eq_zero_or_pos zs.length with h | h
      · rw [List.length_eq_zero_iff] at h; subst h; simp at hne
      · exact h
    obtain ⟨b, off, rfl, hc⟩ := ints_at hcell h0
    refine ⟨b, off, rfl, Nat.zero_le _, block_lt_of_cell (hc 0 h0), fun j hj => ?_⟩
    have hj' : j < zs.length := by simp at hj; omega
    rw [hc j hj']
    have e : zs.getD j 0 = zs[j] := by simp [List.getD, hj']
    rw [e]
    simp only [List.getElem_map, List.getElem_take, f8]
    rw [of_wf8 (hwf _ (List.getElem_mem hj'))]
end Go.Proofs.YtepjpdhmjchakaaDoor

/- A chunk that came in. -/
namespace Go.Proofs.YtepjpdhmjchakaaDoor
open Go.RowKit Go.ChangeShapes Go.WideShapes
set_option linter.unusedVariables false

theorem fieldsCh : fieldsOf Tryd.prog 73 = some [(2, 0), (2, 1), (3, 2), (71, 3)] := by kernel_rfl

set_option maxRecDepth 100000 in
theorem open_chunk {H : Type} {enc : TypeId × Value → H} {w : World} {held : Bool} {fuel : Nat} {cs : List Value} {x : DataW H × List MemPlace} (h : DataW.trod enc Tryd.prog w 0 (fun _ => true) held fuel 73 cs = some x) :
    ∃ F T N a len cap zs, cs = [.int .i64 F, .int .i64 T, .int .i64 N, .slice a len cap] ∧ IsRow .u8 w a len cap zs := by
  obtain ⟨fs, hs, hf⟩ := fields_of fieldsCh
  have hC : Tryd.prog.cellsOf 73 = 4 := by kernel_rfl
  have honeI : Tryd.prog.cellsOf 2 = 1 := by kernel_rfl
  have honeN : Tryd.prog.cellsOf 3 = 1 := by kernel_rfl
  have honeS : Tryd.prog.cellsOf 71 = 1 := by kernel_rfl
  obtain ⟨ys, n', hn', hy, hlen, hyl, hff⟩ := DataW.trod_struct hs h
  rw [hC] at hlen
  match cs, hlen with
  | [x0, x1, x2, x3], _ =>
  match fs, hf with
  | ⟨[f0, f1, f2, f3]⟩, hf =>
  simp at hf
  obtain ⟨⟨t0, o0⟩, ⟨t1, o1⟩, ⟨t2, o2⟩, ⟨t3, o3⟩⟩ := hf
  match ys, hyl with
  | [y0, y1, y2, y3], _ =>
  have g0 := hff 0 f0 rfl
  have g1 := hff 1 f1 rfl
  have g2 := hff 2 f2 rfl
  have g3 := hff 3 f3 rfl
  rw [t0, o0, honeI] at g0
  rw [t1, o1, honeI] at g1
  rw [t2, o2, honeN] at g2
  rw [t3, o3, honeS] at g3
  obtain ⟨n0, e0, _, w0⟩ := DataW.trod_int Tryd.underlying2 g0
  obtain ⟨n1, e1, _, w1⟩ := DataW.trod_int Tryd.underlying2 g1
  obtain ⟨n2, e2, _, w2⟩ := DataW.trod_int Tryd.underlying3 g2
  have p0 : x0 = .int .i64 n0 := by simpa using e0
  have p1 : x1 = .int .i64 n1 := by simpa using e1
  have p2 : x2 = .int .i64 n2 := by simpa using e2
  subst p0 p1 p2
  rcases open_ints Tryd.underlying71 Tryd.underlying5 (by kernel_rfl) g3 with ⟨hcs, _⟩ | ⟨a, l, c, zs, hcs, _, hl, hm, hz, hx, hcell, hwz⟩
  · have p3 : x3 = .slice none 0 0 := by simpa using hcs
    subst p3
    exact ⟨n0, n1, n2, none, 0, 0, [], rfl, .inl ⟨rfl, rfl, rfl, rfl⟩⟩
  · have p3 : x3 = .slice (some a) l c := by simpa using hcs
    subst p3
    exact ⟨n0, n1, n2, some a, l, c, zs, rfl, .inr ⟨a, rfl, hl, hm, by simpa using hz, hcell, hwz⟩⟩
end Go.Proofs.YtepjpdhmjchakaaDoor

/- LentChunks, WholeChunks: what they do. -/
namespace Go.Proofs.YtepjpdhmjchakaaDoor
open Go.RowKit
set_option linter.unusedVariables false

theorem step_append_fits {P : Program} {ops : Array Oper} {o : Oper} {a : Act} {w : World} {K : Act → World → Prop} {Q : Exit → Act → World → Prop} {E : Prop}
    (hg : o.guard = none) (s x : Operand) (t : TypeId) (hop : o.op = Op.call { callee := Callee.builtin Builtin.append, args := #[s, x], argTypes := #[t, t] })
    (base : Nat) (e : TypeId) (i : TypeInfo) (size : Nat) (h1 : P.underlying t = some (.slice e)) (h2 : P.info? e = some i) (h4 : i.size = size)
    (g k cap : Nat) (xs : List Value) (hs : a.eval s = .slice (some ⟨g, 0, none⟩) k cap) (hown : w.ownsRow base e size (.slice (some ⟨g, 0, none⟩) k cap) k xs) (ad : Addr) (m c : Nat) (news : List Value) (hx : a.eval x = .slice (some ad) m c) (hn : news.length = m * size)
    (hc : ∀ j u, news[j]? = some u → w.cell? (ad.add j) = some u) (h1c : ∀ u ∈ news, u.oneCell' = true) (b1 : k + m ≤ cap)
    (hK : ∀ w', w'.ownsRow base e size (.slice (some ⟨g, 0, none⟩) (k + m) cap) (k + m) (xs ++ news) → w.grownBy w' (some g) → K (a.put o.dst (.slice (some ⟨g, 0, none⟩) (k + m) cap)) w') :
    if Region.wanted o (yielded ops a.tmps) = true then Oper.wp P o a w K Q else E := by
  have hw : Region.wanted o (yielded ops a.tmps) = true := by simp [Region.wanted, hg]
  rw [if_pos hw]
  obtain ⟨w', hrun, r1, r2⟩ := run_append_fits (P := P) w base t o.type e i size h1 h2 h4 g k cap xs hown ad m c news hn hc h1c b1
  unfold Oper.wp
  simp [execOp, hop, resolve, invoke, builtin, hs, hx, hrun, Result.andThen]
  exact hK w' r1 r2
/-- A row of the call's own that is full: its block's very cells. -/
theorem own_fulls {w : World} {base : Nat} {e : TypeId} {size g n : Nat} {xs : List Value} (hsz : 0 < size) (hn : 0 < n) (h : w.ownsRow base e size (.slice (some ⟨g, 0, none⟩) n n) n xs) :
    base ≤ g ∧ w.heap[g]? = some (.cells xs.toArray e (0, 0)) := by
  obtain ⟨hl, h | ⟨g', cap, cur, hv, hb, hh, h1, h2, h3, h4⟩⟩ := h
  · simp at h
  · simp only [Value.slice.injEq, Option.some.injEq, Addr.mk.injEq] at hv
    obtain ⟨⟨rfl, -⟩, -, rfl⟩ := hv
    refine ⟨hb, ?_⟩
    rw [hh, ← h4, List.take_of_length_le (by simp [h3])]

/-- The cells of chunks; us are their slices. -/
def cki4 (c : Cki) (u : Value) : List Value := [.int .i64 c.f, .int .i64 c.t, .int .i64 c.n, u]
def ckis (cs : List Cki) (us : List Value) : List Value := (List.zipWith cki4 cs us).flatten
theorem ckis_snoc {cs : List Cki} {us : List Value} (h : us.length = cs.length) (c : Cki) (u : Value) : ckis (cs ++ [c]) (us ++ [u]) = ckis cs us ++ cki4 c u := by
  unfold ckis
  rw [List.zipWith_append h.symm]
  simp
theorem ckis_len : ∀ {cs : List Cki} {us : List Value} (h : us.length = cs.length), (ckis cs us).length = cs.length * 4
  | [], [], _ => rfl
  | c :: cs, u :: us, h => by
    have := ckis_len (cs := cs) (us := us) (by simpa using h)
    simp only [ckis, List.zipWith_cons_cons, List.flatten_cons, List.length_append, List.length_cons] at *
    simp only [cki4, List.length_cons, List.length_nil]
    omega
  | [], _ :: _, h => by simp at h
  | _ :: _, [], h => by simp at h
theorem ckis_get : ∀ {cs : List Cki} {us : List Value} (h : us.length = cs.length) {j : Nat} (hj : j < cs.length) (hj' : j < us.length) (i : Nat) (hi : i < 4), (ckis cs us)[j * 4 + i]? = (cki4 cs[j] us[j])[i]?
  | [], _, _, _, hj, _, _, _ => by simp at hj
  | _ :: _, [], h, _, _, _, _, _ => by simp at h
  | c :: cs, u :: us, h, 0, hj, hj', i, hi => by
    rw [show ckis (c :: cs) (u :: us) = cki4 c u ++ ckis cs us by simp [ckis], List.getElem?_append_left (by simp [cki4]; omega)]
    simp
  | c :: cs, u :: us, h, j + 1, hj, hj', i, hi => by
    have ih := ckis_get (cs := cs) (us := us) (by simpa using h) (j := j) (by simpa using hj) (by simpa using hj') i hi
    rw [show ckis (c :: cs) (u :: us) = cki4 c u ++ ckis cs us by simp [ckis], List.getElem?_append_right (by simp [cki4]; omega)]
    rw [show (j + 1) * 4 + i - (cki4 c u).length = j * 4 + i by simp [cki4]; omega]
    simpa using ih
theorem cki4_one {c : Cki} {u : Value} (hu : u.oneCell' = true) : ∀ x ∈ cki4 c u, x.oneCell' = true := by
  intro x hx
  simp [cki4] at hx
  rcases hx with rfl | rfl | rfl | rfl
  · rfl
  · rfl
  · rfl
  · exact hu
theorem cell_al2 {w : World} {a : Addr} {v : Value} {o : Obj} (h : w.cell? a = some v) : (w.alloc o).cell? a = some v :=
  (World.cell?_of_block (Below.heap_alloc _ _ _ (block_lt_of_cell h))).trans h
theorem infoCh4 : (Tryd.prog.info? 73).map (fun i => (i.zero, i.size, i.bytes)) = some (some (.agg #[.int .i64 0, .int .i64 0, .int .i64 0, .slice none 0 0]), 4, 48) := by kernel_rfl

/-- A lent slice of bytes at u. -/
def LB (w : World) (base : Nat) (u : Value) (l : List UInt8) : Prop := ∃ gi, u = .slice (some ⟨gi, 0, none⟩) l.length (l.length + 2) ∧ w.heap[gi]? = some (.cells (l.map f8 ++ [Value.int .u8 91, Value.int .u8 92]).toArray 5 (0, 0)) ∧ base ≤ gi
/-- The lent chunks: the list at block g, each one's bytes at a block of its own, with room behind. -/
structure LC (w : World) (base g : Nat) (us : List Value) (cs : List Cki) : Prop where
  blk : w.heap[g]? = some (.cells (ckis cs us ++ [Value.int .i64 0, Value.int .i64 0, Value.int .i64 (-77), Value.slice none 0 0]).toArray 73 (0, 0))
  len : us.length = cs.length
  each : ∀ (i : Nat) (u : Value) (c : Cki), us[i]? = some u → cs[i]? = some c → LB w base u c.d
  inc : ∀ (i j : Nat) (u v : Value) (a b : Nat), us[i]? = some u → us[j]? = some v → u.ownBlock = some a → v.ownBlock = some b → i < j → a < b
  lo : base ≤ g
theorem LC.below {w w' : World} {base g B : Nat} {us : List Value} {cs : List Cki} (h : LC w base g us cs) (hb : Below B w w') (hB : w.heap.size ≤ B) : LC w' base g us cs := by
  refine ⟨(hb.block g (Nat.lt_of_lt_of_le (heap_lt h.blk) hB)).trans h.blk, h.len, fun i u r hu hr => ?_, h.inc, h.lo⟩
  obtain ⟨gi, h1, h2, h3⟩ := h.each i u r hu hr
  exact ⟨gi, h1, (hb.block gi (Nat.lt_of_lt_of_le (heap_lt h2) hB)).trans h2, h3⟩
/-- The lent chunks as a slice that is read. -/
theorem LC.chs {w : World} {base g : Nat} {us : List Value} {cs : List Cki} (h : LC w base g us cs) (hn : cs.length ≤ 1000000) (hr : ∀ c ∈ cs, c.d.length ≤ 140737488355328) : Chs w.heap.size w (some ⟨g, 0, none⟩) (cs.length + 1) cs := by
  refine ⟨by unfold maxLen; omega, fun _ => ⟨g, 0, rfl, heap_lt h.blk, fun j hj => ?_⟩⟩
  have hj2 : j < us.length := by rw [h.len]; exact hj
  have get : ∀ i (hi : i < 4) x, (cki4 cs[j] us[j])[i]? = some x → w.cell? ⟨g, j * 4 + i, none⟩ = some x := by
    intro i hi x hx
    rw [cell_of_row _ _ _ _ _ _ h.blk, List.getElem?_toArray, List.getElem?_append_left (by rw [ckis_len h.len]; omega), ckis_get h.len hj hj2 i hi]
    exact hx
  obtain ⟨gi, e1, e2, e3⟩ := h.each j us[j] cs[j] (List.getElem?_eq_getElem hj2) (List.getElem?_eq_getElem hj)
  refine ⟨?_, ?_, ?_, us[j], ?_, ?_⟩
  · have := get 0 (by decide) _ rfl
    rwa [Nat.add_zero, ← Nat.zero_add (j * 4)] at this
  · have := get 1 (by decide) _ rfl
    rwa [← Nat.zero_add (j * 4)] at this
  · have := get 2 (by decide) _ rfl
    rwa [← Nat.zero_add (j * 4)] at this
  · have := get 3 (by decide) _ rfl
    rwa [← Nat.zero_add (j * 4)] at this
  · rw [e1]
    exact (lent_sl (hr _ (List.getElem_mem hj)) e2).mono (Nat.zero_le _) (heap_lt e2)

theorem LC.cell {w : World} {base g : Nat} {us : List Value} {cs : List Cki} (h : LC w base g us cs) {j : Nat} (hj : j < cs.length) {c : Cki} (hc : cs[j] = c) :
    ∃ gi, w.heap[gi]? = some (.cells (c.d.map f8 ++ [Value.int .u8 91, Value.int .u8 92]).toArray 5 (0, 0)) ∧ w.cell? ⟨g, j * 4, none⟩ = some (.int .i64 c.f) ∧ w.cell? ⟨g, j * 4 + 1, none⟩ = some (.int .i64 c.t) ∧ w.cell? ⟨g, j * 4 + 2, none⟩ = some (.int .i64 c.n) ∧ w.cell? ⟨g, j * 4 + 3, none⟩ = some (.slice (some ⟨gi, 0, none⟩) c.d.length (c.d.length + 2)) := by
  subst hc
  have hj2 : j < us.length := by rw [h.len]; exact hj
  have get : ∀ i (hi : i < 4) x, (cki4 cs[j] us[j])[i]? = some x → w.cell? ⟨g, j * 4 + i, none⟩ = some x := by
    intro i hi x hx
    rw [cell_of_row _ _ _ _ _ _ h.blk, List.getElem?_toArray, List.getElem?_append_left (by rw [ckis_len h.len]; omega), ckis_get h.len hj hj2 i hi]
    exact hx
  obtain ⟨gi, e1, e2, _⟩ := h.each j us[j] cs[j] (List.getElem?_eq_getElem hj2) (List.getElem?_eq_getElem hj)
  exact ⟨gi, e2, get 0 (by decide) _ rfl, get 1 (by decide) _ rfl, get 2 (by decide) _ rfl, (get 3 (by decide) _ rfl).trans (by rw [e1])⟩

set_option maxHeartbeats 4000000 in
set_option maxRecDepth 100000 in
theorem lentCh_any (w : World) (ao : Option Addr) (cap : Nat) (l : List Cki) (h : Chs w.heap.size w ao cap l) (hn : l.length ≤ 1000000) :
    Calls Tryd.prog 19 #[.slice ao l.length cap] w fun e w' => ∃ us, e = .returned (.slice (some ⟨w.heap.size, 0, none⟩) l.length (l.length + 1)) ∧ LC w' w.heap.size w.heap.size us l ∧ Below w.heap.size w w' := by
  have H := Lib.hid h
  clear h
  obtain ⟨i1, hi1, hy1, hy2, hy3⟩ := info_parts infoCh4
  go_enter Tryd.func19, Tryd.ntmps19
  go_wp2_with (at_make; refine wpList_make_own _ rfl _ _ 77 rfl w.heap.size 73 i1 (.agg #[.int .i64 0, .int .i64 0, .int .i64 0, .slice none 0 0]) 4 Tryd.underlying77 hi1 hy1 hy2 .i64 .i64 _ (l.length + 1) rfl rfl (by push_cast; rfl) (by rw [hy3]; omega) (by unfold maxLen; omega) (Nat.le_refl _) ?_; intro w1 hown1 hgrow1; have hb1 : Below w.heap.size w w1 := (Below.refl _ _).grown hgrow1 (Nat.le_refl _) (by intro q hq; cases hq); have HO1 := Lib.hid hown1; have HB1 := Lib.hid hb1; clear hown1 hgrow1 hb1)
  go_loopw [3, 4] (fun x i wr => ∃ (k : Nat) (us : List Value), k ≤ l.length ∧ i = .int .i64 k ∧ x = .slice (some ⟨w.heap.size, 0, none⟩) k (l.length + 1) ∧ us.length = k ∧ wr.ownsRow w.heap.size 73 4 (.slice (some ⟨w.heap.size, 0, none⟩) k (l.length + 1)) k (ckis (l.take k) us) ∧
      (∀ (i : Nat) (u : Value) (c : Cki), us[i]? = some u → l[i]? = some c → LB wr (w.heap.size + 1) u c.d) ∧
      (∀ (i j : Nat) (u v : Value) (a b : Nat), us[i]? = some u → us[j]? = some v → u.ownBlock = some a → v.ownBlock = some b → i < j → a < b) ∧ Below w.heap.size w wr) (fun _ i _ => l.length - (intOf i).toNat)
  case atStart => exact ⟨0, [], Nat.zero_le _, rfl, rfl, rfl, HO1.out, fun i u c hu => by simp at hu, fun i j u v a b hu => by simp at hu, HB1.out⟩
  case round =>
    obtain ⟨k, us, hk, rfl, rfl, hus, hown, heach, hinc, hbel⟩ := hrel
    have HE := Lib.hid heach
    have HI := Lib.hid hinc
    have HO := Lib.hid hown
    have HVK := Lib.hid hus
    have hbs := hbel.size
    have hwr : w.heap.size < wr.heap.size := (hown.lt _ rfl).2
    have HBE := Lib.hid hbel
    clear heach hinc hown hus hbel
    by_cases hlt : k < l.length
    · obtain ⟨b, off, hao, hbh, hcs⟩ := (H.out.below HBE.out (Nat.le_refl _)).cells (by intro e; subst e; simp at hlt)
      subst hao
      obtain ⟨d0, d1, d2, u, d3, hsl⟩ := hcs k hlt
      obtain ⟨c, hc⟩ : ∃ c, l[k] = c := ⟨_, rfl⟩
      rw [hc] at d0 d1 d2 hsl
      have HSL := Lib.hid (hsl.below (drew_b wr) hbs)
      have HCC := Lib.hid hc
      have hcl := hsl.len
      obtain ⟨au, cu, rfl, _⟩ := hsl
      have i1' : (0 : Int) ≤ (k : Int) ∧ (k : Int) < (l.length : Int) := by omega
      have hbw : b < wr.heap.size := by omega
      clear hcs hc
      go_wp2
      go_region_held3 (fun w' => w'.cell? ⟨b, off + k * 4, none⟩ = some (.int .i64 c.f) ∧ w'.cell? ⟨b, off + k * 4 + 1, none⟩ = some (.int .i64 c.t) ∧ w'.cell? ⟨b, off + k * 4 + 2, none⟩ = some (.int .i64 c.n) ∧ w'.cell? ⟨b, off + k * 4 + 3, none⟩ = some (.slice au c.d.length cu)) (first | assumption | exact ⟨d0, d1, d2, d3⟩ | exact ⟨f0, f1, f2, f3⟩ | exact ⟨cell_al2 f0, cell_al2 f1, cell_al2 f2, cell_al2 f3⟩ | exact ⟨p0, p1, p2, p3⟩) (first
        | (refine step_append_fits rfl (.tmp 16) (.tmp 39) 77 rfl w.heap.size 73 i1 4 Tryd.underlying77 hi1 hy2 w.heap.size k (l.length + 1) (ckis (l.take k) us) rfl (HOW.out.alloc _) ⟨w2.heap.size, 0, none⟩ 1 1 [.int .i64 c.f, .int .i64 c.t, .int .i64 c.n, .slice (some ⟨g2, 0, none⟩) c.d.length (c.d.length + 2)] rfl rfl (news_alloc w2 [.int .i64 c.f, .int .i64 c.t, .int .i64 c.n, .slice (some ⟨g2, 0, none⟩) c.d.length (c.d.length + 2)] 73) (cki4_one (c := c) rfl) (by omega) ?_; intro w3 hown3 hgr3; have hbx : w3.heap[b]? = w2.heap[b]? := (hgr3.block b (by simp; omega) (fun e => by injection e with e; omega)).trans (Below.heap_alloc _ _ _ (by omega)); have p0 := (World.cell?_of_block (a := ⟨b, off + k * 4, none⟩) hbx).trans f0; have p1 := (World.cell?_of_block (a := ⟨b, off + k * 4 + 1, none⟩) hbx).trans f1; have p2 := (World.cell?_of_block (a := ⟨b, off + k * 4 + 2, none⟩) hbx).trans f2; have p3 := (World.cell?_of_block (a := ⟨b, off + k * 4 + 3, none⟩) hbx).trans f3; have HO3 := Lib.hid hown3; have HG3 := Lib.hid (grown_alloc hgr3); clear hown3 hgr3)
        | (go_at_call 66; refine (lent_any 0 w.heap.size wr.drew _ c.d HSL.out hbs).mono ?_; rintro e w2 ⟨g2, rfl, hg2, hblk2, hb2⟩; have hs2 : wr.heap.size ≤ w2.heap.size := hb2.size; have f0 := (hb2.cell (p := ⟨b, off + k * 4, none⟩) (show b < wr.heap.size by omega)).trans d0; have f1 := (hb2.cell (p := ⟨b, off + k * 4 + 1, none⟩) (show b < wr.heap.size by omega)).trans d1; have f2 := (hb2.cell (p := ⟨b, off + k * 4 + 2, none⟩) (show b < wr.heap.size by omega)).trans d2; have f3 := (hb2.cell (p := ⟨b, off + k * 4 + 3, none⟩) (show b < wr.heap.size by omega)).trans d3; have hg2' : wr.heap.size ≤ g2 := hg2; have HBK := Lib.hid hblk2; have HB2 := Lib.hid (show Below wr.heap.size wr w2 from (drew_b wr).trans hb2); have HOW := Lib.hid (own_of_same HO.out (fun q hq => ((drew_b wr).trans hb2).block q (HO.out.lt q hq).2)); clear hblk2 hb2 hg2))
      go_wp2
      go_roundw
      case rel =>
        have hl3 : (ckis (l.take (k + 1)) (us ++ [.slice (some ⟨g2, 0, none⟩) c.d.length (c.d.length + 2)])) = ckis (l.take k) us ++ [.int .i64 c.f, .int .i64 c.t, .int .i64 c.n, .slice (some ⟨g2, 0, none⟩) c.d.length (c.d.length + 2)] := by
          rw [List.take_succ_eq_append_getElem hlt, HCC.out, ckis_snoc (by rw [HVK.out, List.length_take]; omega)]
          rfl
        refine ⟨k + 1, us ++ [.slice (some ⟨g2, 0, none⟩) c.d.length (c.d.length + 2)], by omega, by push_cast; rfl, rfl, by rw [List.length_append, HVK.out]; rfl, by rw [hl3]; exact HO3.out, fun i u q hu hq => ?_, fun i j u v a b hu hv ha hb hij => ?_, (HBE.out.trans (HB2.out.mono hbs)).grown HG3.out (by omega) (fun q hq => by injection hq with hq; omega)⟩
        · rcases Nat.lt_trichotomy i k with hi | hi | hi
          · rw [List.getElem?_append_left (by rw [HVK.out]; exact hi)] at hu
            obtain ⟨gi, e1, e2, e3⟩ := HE.out i u q hu hq
            have h2 := (HB2.out.block gi (heap_lt e2)).trans e2
            exact ⟨gi, e1, (HG3.out.block gi (heap_lt h2) (fun e => by injection e with e; omega)).trans h2, e3⟩
          · subst hi
            rw [List.getElem?_append_right (by rw [HVK.out]; exact Nat.le_refl _), HVK.out, Nat.sub_self] at hu
            rw [List.getElem?_eq_getElem hlt, HCC.out] at hq
            simp at hu hq
            subst hu hq
            exact ⟨g2, rfl, (HG3.out.block g2 (heap_lt HBK.out) (fun e => by injection e with e; omega)).trans HBK.out, by omega⟩
          · rw [List.getElem?_eq_none (by rw [List.length_append, HVK.out]; simp; omega)] at hu; cases hu
        · have hj : j < k + 1 := by
            have := (List.getElem?_eq_some_iff.1 hv).1
            rw [List.length_append, HVK.out] at this
            exact this
          have hik : i < k := by omega
          rw [List.getElem?_append_left (by rw [HVK.out]; exact hik)] at hu
          rcases Nat.lt_or_ge j k with hjk | hjk
          · rw [List.getElem?_append_left (by rw [HVK.out]; exact hjk)] at hv
            exact HI.out i j u v a b hu hv ha hb hij
          · have : j = k := by omega
            subst this
            rw [List.getElem?_append_right (by rw [HVK.out]; exact Nat.le_refl _), HVK.out, Nat.sub_self] at hv
            simp at hv
            subst hv
            injection hb with hb
            have hb' : g2 = b := hb
            obtain ⟨gi, e1, e2, e3⟩ := HE.out i u _ hu (List.getElem?_eq_getElem (by omega))
            subst e1
            injection ha with ha
            have ha' : gi = a := ha
            have := heap_lt e2
            omega
      case measure => simp [intOf]; omega
    · obtain rfl : k = l.length := by omega
      rw [List.take_length] at HO
      go_wp2_with (at_builtin; refine wpList_append_fits _ rfl (.tmp 41) (.tmp 43) 77 rfl w.heap.size 73 i1 4 Tryd.underlying77 hi1 hy2 _ l.length (l.length + 1) (ckis l us) rfl (HO.out.alloc _) ⟨wr.heap.size, 0, none⟩ 1 1 [.int .i64 0, .int .i64 0, .int .i64 (-77), .slice none 0 0] rfl rfl (news_alloc wr [.int .i64 0, .int .i64 0, .int .i64 (-77), .slice none 0 0] 73) (by simp [Value.oneCell']) (by omega) ?_; intro w3 hown3 hgr3; have HO3 := Lib.hid hown3; have HG3 := Lib.hid hgr3; clear hown3 hgr3)
      go_ret
      have hgr := grown_alloc HG3.out
      obtain ⟨_, hfull⟩ := own_fulls (by decide) (by omega) HO3.out
      refine ⟨us, rfl, ⟨hfull, HVK.out, fun i u q hu hq => ?_, HI.out, Nat.le_refl _⟩, (HBE.out.alloc hbs _).grown HG3.out (by simp; omega) (fun q hq => by injection hq with hq; omega)⟩
      obtain ⟨gi, e1, e2, e3⟩ := HE.out i u q hu hq
      exact ⟨gi, e1, (hgr.block gi (heap_lt e2) (fun e => by injection e with e; omega)).trans e2, by omega⟩

set_option maxHeartbeats 4000000 in
set_option maxRecDepth 100000 in
theorem wholeCh_any (base g : Nat) (w : World) (ao' : Option Addr) (cap' : Nat) (us : List Value) (l : List Cki) (h : LC w base g us l) (hi : Nat) (h' : Chs hi w ao' cap' l) (hn : l.length ≤ 1000000) (hr : ∀ c ∈ l, c.d.length ≤ 140737488355328) :
    Calls Tryd.prog 22 #[.slice (some ⟨g, 0, none⟩) l.length (l.length + 1), .slice ao' l.length cap'] w fun e w' => e = .returned (.bool true) ∧ ∃ n, w' = w.drewN n := by
  have cN : w.cell? ⟨g, l.length * 4 + 2, none⟩ = some (.int .i64 (-77)) := by
    rw [cell_of_row _ _ _ _ _ _ h.blk, List.getElem?_toArray, List.getElem?_append_right (by rw [ckis_len h.len]; omega), ckis_len h.len, Nat.add_sub_cancel_left]; rfl
  have HC := Lib.hid (h.chs hn hr)
  have HH := Lib.hid h
  have HC' := Lib.hid h'
  have HRR := Lib.hid hr
  clear h h' hr
  have i0 : (0 : Int) ≤ (l.length : Int) ∧ (l.length : Int) < ((l.length + 1 : Nat) : Int) := by omega
  go_enter Tryd.func22, Tryd.ntmps22
  go_wp2
  go_loopw [6] (fun i wr => ∃ k n : Nat, k ≤ l.length ∧ i = .int .i64 k ∧ Hid (wr = w.drewN n)) (fun i _ => l.length - (intOf i).toNat)
  case atStart => exact ⟨0, 0, Nat.zero_le _, rfl, Lib.hid rfl⟩
  case round =>
    obtain ⟨k, n, hk, rfl, HW⟩ := hrel
    by_cases hlt : k < l.length
    · obtain ⟨b, off, hao, _, hcs⟩ := HC'.out.cells (by intro e; subst e; simp at hlt)
      subst hao
      obtain ⟨c, hc⟩ : ∃ c, l[k] = c := ⟨_, rfl⟩
      have key : ∀ p, wr.cell? p = w.cell? p := fun p => by rw [HW.out]; rfl
      obtain ⟨d0, d1, d2, u, d3, hsl⟩ := hcs k hlt
      obtain ⟨gi, hblk, e0, e1, e2, e3⟩ := HH.out.cell hlt hc
      have hcl := HRR.out l[k] (List.getElem_mem hlt)
      rw [hc] at d0 d1 d2 hsl hcl
      rw [← key] at d0 d1 d2 d3 e0 e1 e2 e3
      have i1 : (0 : Int) ≤ (k : Int) ∧ (k : Int) < (l.length : Int) := by omega
      have HSL := Lib.hid (show Sl 0 hi f8 wr u c.d from hsl.same (fun _ _ _ => by rw [HW.out]; rfl))
      have HBK := Lib.hid (show ∀ m : Nat, (wr.drewN m).heap[gi]? = some (.cells (c.d.map f8 ++ [Value.int .u8 91, Value.int .u8 92]).toArray 5 (0, 0)) from fun m => by
        show wr.heap[gi]? = _
        rw [HW.out]; exact hblk)
      have HSM := Lib.hid (show sameB c.d c.d = true by simp [sameB])
      clear key hcs hsl hblk hc
      go_wp2
      go_quiet ((go_at_call 69; exact Calls.quiet_of (whole_any 0 hi gi (wr.drewN _) u c.d c.d hcl (HBK.out _) (HSL.out.same (fun _ _ _ => rfl)))))
      rw [HSM.out]
      have HW2 : Hid (wr.drewN nq = w.drewN (n + nq)) := Lib.hid (by rw [HW.out, World.drewN_drewN])
      go_wp2
      go_roundw
      case rel => exact ⟨k + 1, _, by omega, by push_cast; rfl, HW2⟩
      case measure => simp [intOf]; omega
    · go_wp2
      go_ret
      exact ⟨rfl, _, HW.out⟩
end Go.Proofs.YtepjpdhmjchakaaDoor

/- The walk of GorillaReads. Conditions: the library's table of trailing noughts (TabW), the document's list of buckets (BkAt). -/
namespace Go.Proofs.YtepjpdhmjchakaaDoor.gorillaReads
open Go.RowKit Go.Proofs.YtepjpdhmjchakaaDoor
set_option linter.unusedVariables false

theorem chs_lit {w : World} {c : Cki} {u : Value} (hs : Sl 0 w.heap.size f8 w u c.d) : Chs (w.alloc (.cells #[.int .i64 c.f, .int .i64 c.t, .int .i64 c.n, u] 73)).heap.size (w.alloc (.cells #[.int .i64 c.f, .int .i64 c.t, .int .i64 c.n, u] 73)) (some ⟨w.heap.size, 0, none⟩) 1 [c] := by
  refine ⟨show 1 ≤ maxLen by decide, fun _ => ⟨w.heap.size, 0, rfl, by simp, fun j hj => ?_⟩⟩
  obtain rfl : j = 0 := by simpa using hj
  obtain ⟨k0, k1, k2, k3, _⟩ := box4 (heap_alloc_new w (.cells #[.int .i64 c.f, .int .i64 c.t, .int .i64 c.n, u] 73))
  exact ⟨k0, k1, k2, u, k3, (hs.below (al_b w _) (Nat.le_refl _)).mono (Nat.le_refl _) (by simp)⟩
theorem _root_.Go.Proofs.YtepjpdhmjchakaaDoor.Sms.take {hi : Nat} {w : World} {ao : Option Addr} {cap : Nat} {l : List Gz.Smp} (h : Sms hi w ao cap l) (k : Nat) : Sms hi w ao cap (l.take k) := by
  have hk := List.length_take_le' k l
  refine ⟨Nat.le_trans hk h.len, fun hne => ?_⟩
  obtain ⟨b, off, h1, h2, h3⟩ := h.cells (fun e => hne (by rw [e, List.take_nil]))
  refine ⟨b, off, h1, h2, fun j hj => ?_⟩
  have := h3 j (by omega)
  rwa [List.getElem_take]
theorem own_cap {w : World} {base : Nat} {e : TypeId} {size n c : Nat} {a : Option Addr} {xs : List Value} (h : w.ownsRow base e size (.slice a n c) n xs) : n ≤ c := by
  obtain ⟨_, ⟨h0, hn⟩ | ⟨g, cap, cur, h0, _, _, h1, h2, h3, h4⟩⟩ := h
  · injection h0 with _ h0 h0'
    omega
  · injection h0 with _ _ h0
    omega
theorem al_neg (c : Cki) : al (-1) c = (rdo c).getD [] := by unfold al; rw [if_pos (by decide)]
theorem al_nat (M : Nat) (c : Cki) : al (M : Int) c = ((rdo c).getD []).take M := by unfold al; rw [if_neg (by omega), Int.toNat_natCast]

set_option maxRecDepth 100000 in
theorem walk_long (F T N n : Int) (a : Option Addr) (len cap : Nat) (W : World) (h : 100000 < len) :
    Calls Tryd.prog 5 #[.agg #[.int .i64 F, .int .i64 T, .int .i64 N, .slice a len cap], .int .i64 n] W fun e W' => e = .returned (.bool true) ∧ Below W.heap.size W W' := by
  obtain ⟨Wa, hWa⟩ : ∃ Wa, W.alloc (.cells #[.int .i64 F, .int .i64 T, .int .i64 N, .slice a len cap] 73) = Wa := ⟨_, rfl⟩
  have hba : Below W.heap.size W Wa := by rw [← hWa]; exact (Below.refl _ _).alloc (Nat.le_refl _) _
  have hbx : Wa.heap[W.heap.size]? = some (.cells #[.int .i64 F, .int .i64 T, .int .i64 N, .slice a len cap] 73 (0, 0)) := by rw [← hWa]; exact heap_alloc_new W _
  obtain ⟨k0, k1, k2, k3, kz⟩ := box4 hbx
  have HBA := Lib.hid hba
  have gl : decide ((100000 : Int) < (len : Int)) = true := decide_eq_true (by omega)
  clear hba hbx h
  go_enter Tryd.func5, Tryd.ntmps5
  go_wp2
  go_ret
  exact ⟨rfl, HBA.out⟩

set_option maxHeartbeats 4000000 in
set_option maxRecDepth 100000 in
theorem walk_some (F T N n : Int) (u : Value) (l : List UInt8) (W : World) (hu : Sl 0 W.heap.size f8 W u l) (hl : l.length ≤ 100000) (hT : TabW W) {b o c' b0 o0 c0 b1 o1 c1 b2 o2 c2 : Nat} (hk : BkAt W.heap.size W b o c' b0 o0 c0 b1 o1 c1 b2 o2 c2) (p : List Gz.Smp) (hr : rdo ⟨F, T, N, l⟩ = some p) :
    Calls Tryd.prog 5 #[.agg #[.int .i64 F, .int .i64 T, .int .i64 N, u], .int .i64 n] W fun e W' => e = .returned (.bool true) ∧ Below W.heap.size W W' := by
  obtain ⟨au, cu, rfl, _⟩ := hu
  have hu : Sl 0 W.heap.size f8 W (.slice au l.length cu) l := ⟨au, cu, rfl, by assumption⟩
  have hlb : 1 < W.heap.size := block_lt_of_cell (hT 0 (by omega))
  obtain ⟨Wa, hWa⟩ : ∃ Wa, W.alloc (.cells #[.int .i64 F, .int .i64 T, .int .i64 N, .slice au l.length cu] 73) = Wa := ⟨_, rfl⟩
  have hba : Below W.heap.size W Wa := by rw [← hWa]; exact (Below.refl _ _).alloc (Nat.le_refl _) _
  have hbx : Wa.heap[W.heap.size]? = some (.cells #[.int .i64 F, .int .i64 T, .int .i64 N, .slice au l.length cu] 73 (0, 0)) := by rw [← hWa]; exact heap_alloc_new W _
  have hsa : Wa.heap.size = W.heap.size + 1 := by rw [← hWa]; simp
  obtain ⟨k0, k1, k2, k3, kz⟩ := box4 hbx
  have HBA := Lib.hid hba
  have HBX := Lib.hid hbx
  have HSA := Lib.hid hsa
  have HU := Lib.hid hu
  have HT := Lib.hid hT
  have HK := Lib.hid hk
  have HR := Lib.hid hr
  have gl : decide ((100000 : Int) < (l.length : Int)) = false := decide_eq_false (by omega)
  obtain ⟨M, hM⟩ : ∃ M : Nat, (if 0 < n then n else 0) = (M : Int) := ⟨n.toNat, by split <;> omega⟩
  clear hba hbx hsa hu hT hk hr
  go_enter Tryd.func5, Tryd.ntmps5
  go_wp2_with fail
  refine Calls.mono (by exact gzKnown_any Wa (HT.out.below HBA.out hlb)) ?_
  rintro e w1 ⟨rfl, hb1⟩
  have hs1 := hb1.size
  have hb1w := HBA.out.trans (hb1.mono HBA.out.size)
  have HB1 := Lib.hid hb1w
  have hx1 := (hb1.block W.heap.size (by have := HSA.out; omega)).trans HBX.out
  have HX1 := Lib.hid hx1
  obtain ⟨m0, m1, m2, m3, mz⟩ := box4 hx1
  have hs1w := hb1w.size
  clear hb1 hb1w hx1 k0 k1 k2 k3 kz
  go_wp2_with fail
  refine Calls.mono (by exact lentCh_any _ _ _ [⟨F, T, N, l⟩] (chs_lit (c := ⟨F, T, N, l⟩) ((HU.out.below HB1.out (Nat.le_refl _)).mono (Nat.le_refl _) hs1w)) (show 1 ≤ 1000000 by decide)) ?_
  rintro e w2 ⟨us, rfl, hlc, hb2⟩
  obtain ⟨wc, hwc⟩ : ∃ wc, w1.alloc (.cells #[.int .i64 F, .int .i64 T, .int .i64 N, .slice au l.length cu] 73) = wc := ⟨_, rfl⟩
  have hb1c : Below w1.heap.size w1 wc := by rw [← hwc]; exact al_b w1 _
  have hsc : w1.heap.size < wc.heap.size := by rw [← hwc]; simp
  rw [hwc] at hlc hb2 ⊢
  have hs2 := hb2.size
  obtain ⟨u', hus⟩ : ∃ u', us = [u'] := List.length_eq_one_iff.1 hlc.len
  subst hus
  obtain ⟨gi, hgi, hblk, hgil⟩ := hlc.each 0 u' ⟨F, T, N, l⟩ rfl rfl
  dsimp only at hgi hblk
  subst hgi
  have q : w2.heap[wc.heap.size]? = some (.cells #[.int .i64 F, .int .i64 T, .int .i64 N, .slice (some ⟨gi, 0, none⟩) l.length (l.length + 2), .int .i64 0, .int .i64 0, .int .i64 (-77), .slice none 0 0] 73 (0, 0)) := hlc.blk
  have HQ := Lib.hid q
  have HLC := Lib.hid hlc
  have HSL := Lib.hid ((lent_sl (w := w2) (g := gi) (l := l) (by omega) hblk).mono (Nat.zero_le _) (show gi + 1 ≤ w2.heap.size from heap_lt hblk))
  have HB2 := Lib.hid (HB1.out.trans ((hb1c.trans (hb2.mono (by omega))).mono hs1w))
  have hb2x := (hb1c.trans (hb2.mono (by omega))).block W.heap.size (by have := HSA.out; omega)
  have HX2 := Lib.hid (hb2x.trans HX1.out)
  have hgg : wc.heap.size < w2.heap.size := heap_lt q
  obtain ⟨G, hG⟩ : ∃ G, wc.heap.size = G := ⟨_, rfl⟩
  rw [hG] at HQ HLC hgg ⊢
  have p0 : w2.cell? ⟨G, 0, none⟩ = some (.int .i64 F) := (cell_of_row _ _ _ _ _ _ HQ.out).trans rfl
  have p1 : w2.cell? ⟨G, 1, none⟩ = some (.int .i64 T) := (cell_of_row _ _ _ _ _ _ HQ.out).trans rfl
  have p2 : w2.cell? ⟨G, 2, none⟩ = some (.int .i64 N) := (cell_of_row _ _ _ _ _ _ HQ.out).trans rfl
  have p3 : w2.cell? ⟨G, 3, none⟩ = some (.slice (some ⟨gi, 0, none⟩) l.length (l.length + 2)) := (cell_of_row _ _ _ _ _ _ HQ.out).trans rfl
  clear hlc hb2 hblk q hb2x hwc hG m0 m1 m2 m3 mz hb1c
  go_wp2_with fail
  refine Calls.mono (by exact check_any w2 ⟨F, T, N, l⟩ _ 0 w2.heap.size HSL.out (Nat.le_refl _) (HT.out.below HB2.out hlb)) ?_
  rintro e w3 ⟨⟨er, rfl, hcase⟩, hb3⟩
  obtain rfl : er = 0 := by
    rcases hcase with ⟨h, _⟩ | ⟨_, h⟩
    · exact h
    · rw [HR.out] at h; cases h
  have HB3 := Lib.hid hb3
  have hs3 := hb3.size
  have HW3 := Lib.hid (HB2.out.trans (hb3.mono HB2.out.size))
  have q0 := (hb3.cell (p := ⟨G, 0, none⟩) hgg).trans p0
  have q1 := (hb3.cell (p := ⟨G, 1, none⟩) hgg).trans p1
  have q2 := (hb3.cell (p := ⟨G, 2, none⟩) hgg).trans p2
  have q3 := (hb3.cell (p := ⟨G, 3, none⟩) hgg).trans p3
  clear hb3 hcase p0 p1 p2 p3
  go_wp2_with fail
  refine Calls.mono (by exact gall_any w3 ⟨F, T, N, l⟩ _ 0 w2.heap.size (-1) (HSL.out.below HB3.out (Nat.le_refl _)) hs3 (HT.out.below HW3.out hlb)) ?_
  rintro e w4 ⟨v4, rfl, ho4, hb4⟩
  rw [al_neg, HR.out, Option.getD_some] at ho4
  obtain ⟨a4, c4, hv4, hm4⟩ := Sms.owns ho4 (by have := (rdo_some.1 HR.out).fine.len; unfold maxLen; omega) (rdo_some.1 HR.out).fits
  subst hv4
  have HM4 := Lib.hid hm4
  have hs4 := hb4.size
  have HB4 := Lib.hid (HB3.out.trans (hb4.mono hs3))
  have HW4 := Lib.hid (HB2.out.trans (HB4.out.mono HB2.out.size))
  have r0 := (hb4.cell (p := ⟨G, 0, none⟩) (show G < w3.heap.size by omega)).trans q0
  have r1 := (hb4.cell (p := ⟨G, 1, none⟩) (show G < w3.heap.size by omega)).trans q1
  have r2 := (hb4.cell (p := ⟨G, 2, none⟩) (show G < w3.heap.size by omega)).trans q2
  have r3 := (hb4.cell (p := ⟨G, 3, none⟩) (show G < w3.heap.size by omega)).trans q3
  clear hb4 hm4 ho4 q0 q1 q2 q3
  go_wp2_with fail
  refine Calls.mono (by exact gall_any w4 ⟨F, T, N, l⟩ _ 0 w2.heap.size (M : Int) (HSL.out.below HB4.out (Nat.le_refl _)) (by omega) (HT.out.below HW4.out hlb)) ?_
  rintro e w5 ⟨v5, rfl, ho5, hb5⟩
  rw [al_nat, HR.out, Option.getD_some] at ho5
  obtain ⟨y, hy⟩ : ∃ y, p.take M = y := ⟨_, rfl⟩
  rw [hy] at ho5
  obtain ⟨a5, c5, hv5, hm5⟩ := Sms.owns ho5 (by have := (rdo_some.1 HR.out).fine.len; have := List.length_take_le' M p; rw [← hy]; unfold maxLen; omega) (fun s hs => (rdo_some.1 HR.out).fits s (List.mem_of_mem_take (hy ▸ hs)))
  subst hv5
  have HM5 := Lib.hid hm5
  have hs5 := hb5.size
  have HB5 := Lib.hid (HB4.out.trans (hb5.mono (by omega)))
  have HW5 := Lib.hid (HB2.out.trans (HB5.out.mono HB2.out.size))
  have HM4' := Lib.hid (HM4.out.below hb5 (Nat.le_refl _))
  have hx5 := (HB5.out.block W.heap.size (by have := HSA.out; omega)).trans HX2.out
  have HX5 := Lib.hid hx5
  obtain ⟨m0, m1, m2, m3, mz⟩ := box4 hx5
  have HLC5 := Lib.hid (HLC.out.below HB5.out (Nat.le_refl _))
  clear hb5 hm5 ho5 r0 r1 r2 r3 HM4 hx5
  go_wp2_with fail
  obtain ⟨wd, hwd⟩ : ∃ wd, w5.alloc (.cells #[.int .i64 F, .int .i64 T, .int .i64 N, .slice au l.length cu] 73) = wd := ⟨_, rfl⟩
  have hb5d : Below w5.heap.size w5 wd := by rw [← hwd]; exact al_b w5 _
  have hsd : w5.heap.size < wd.heap.size := by rw [← hwd]; simp
  have hW5 := HW5.out.size
  have hcl := chs_lit (c := ⟨F, T, N, l⟩) ((HU.out.below HW5.out (Nat.le_refl _)).mono (Nat.le_refl _) hW5)
  dsimp only at hcl
  rw [hwd] at hcl ⊢
  refine Calls.mono (by exact wholeCh_any G G wd _ 1 _ [⟨F, T, N, l⟩] (HLC5.out.below hb5d (Nat.le_refl _)) wd.heap.size hcl (show 1 ≤ 1000000 by decide) (by intro c hc; simp at hc; subst hc; show l.length ≤ _; omega)) ?_
  rintro e w6 ⟨rfl, n6, rfl⟩
  obtain ⟨wx, hwx⟩ : ∃ wx, wd.drewN n6 = wx := ⟨_, rfl⟩
  have hbx6 : Below w5.heap.size w5 wx := by rw [← hwx]; exact hb5d.trans ((drewN_b wd n6).mono (by omega))
  rw [hwx]
  have hx6 := (hbx6.block W.heap.size (heap_lt HX5.out)).trans HX5.out
  have hs6 := hbx6.size
  have HB6 := Lib.hid hbx6
  have HW6 := Lib.hid (HW5.out.trans (hbx6.mono hW5))
  have hW6 : W.heap.size ≤ wx.heap.size := by omega
  clear m0 m1 m2 m3 mz hcl hwx hwd hb5d hsd hbx6
  obtain ⟨m0, m1, m2, m3, mz⟩ := box4 hx6
  clear hx6
  go_wp2_with fail
  refine Calls.mono (by exact xall_any wx ⟨F, T, N, l⟩ _ 0 W.heap.size (HU.out.below HW6.out (Nat.le_refl _)) hW6 (show l.length ≤ 1000000 by omega) ((HK.out.below HW6.out).mono hW6)) ?_
  rintro e w7 ⟨⟨bb, ls, v7, rfl, ho7, hf7, hl7, hcase⟩, hb7⟩
  obtain ⟨rfl, rfl⟩ : bb = true ∧ ls = p := by
    rcases hcase with ⟨h1, h2⟩ | ⟨_, h2⟩
    · rw [HR.out] at h2
      injection h2 with h2
      exact ⟨h1, h2.symm⟩
    · rw [HR.out] at h2
      cases h2
  obtain ⟨a7, c7, hv7, hm7⟩ := Sms.owns ho7 (by unfold maxLen; omega) hf7
  subst hv7
  have hc7 := own_cap ho7
  have HM7 := Lib.hid hm7
  clear hm7
  have hs7 := hb7.size
  have HB7 := Lib.hid (HB6.out.trans (hb7.mono hs6))
  have HW7 := Lib.hid (HW6.out.trans (hb7.mono hW6))
  have HM4x := Lib.hid (HM4'.out.below HB7.out hs5)
  have HM5x := Lib.hid (HM5.out.below HB7.out (Nat.le_refl _))
  have hyl : y.length = min M ls.length := by rw [← hy, List.length_take]
  have hky : (0 : Int) ≤ (y.length : Int) ∧ (y.length : Int) ≤ (c7 : Int) := by omega
  have HMY := Lib.hid (hy ▸ HM7.out.take M : Sms w7.heap.size w7 a7 c7 y)
  clear hy
  by_cases hML : (M : Int) < (ls.length : Int)
  · obtain rfl : M = y.length := by omega
    clear hyl
    clear hb7 ho7 hf7 hl7 hcase m0 m1 m2 m3 mz HM4'
    go_wp2_with fail
    refine Calls.mono (by exact gzKnown_any w7 (HT.out.below HW7.out hlb)) ?_
    rintro e w8 ⟨rfl, hb8⟩
    have hs8 := hb8.size
    have HB8 := Lib.hid hb8
    clear hb8
    go_wp2_with fail
    refine Calls.mono (by exact sameSm_any w4.heap.size w7.heap.size w8 a4 a7 c4 c7 ls ls (HM4x.out.below (HB8.out.mono (show w4.heap.size ≤ w7.heap.size by omega)) (Nat.le_refl _)) (HM7.out.below HB8.out (Nat.le_refl _))) ?_
    rintro e w9 ⟨b9, rfl, hb9, n9, hw9⟩
    obtain rfl : b9 = true := hb9.2 rfl
    subst hw9
    go_wp2_with fail
    refine Calls.mono (by exact sameSm_any w5.heap.size w7.heap.size (w8.drewN n9) a5 a7 c5 c7 y y ((HM5x.out.below (HB8.out.mono (show w5.heap.size ≤ w7.heap.size by omega)) (Nat.le_refl _)).below (drewN_b w8 n9) (by omega)) ((HMY.out.below HB8.out (Nat.le_refl _)).below (drewN_b w8 n9) hs8)) ?_
    rintro e wz ⟨bz, rfl, hbz, nz, hwz⟩
    obtain rfl : bz = true := hbz.2 rfl
    subst hwz
    go_wp2_with fail
    go_ret
    exact ⟨rfl, (HW7.out.trans (HB8.out.mono (by omega))).trans ((drewN_b w8 (n9 + nz)).mono (by omega))⟩
  · have HLL := Lib.hid (show ls.length = y.length by omega)
    clear hyl
    clear hb7 ho7 hf7 hl7 hcase m0 m1 m2 m3 mz HM4'
    go_wp2_with fail
    refine Calls.mono (by exact gzKnown_any w7 (HT.out.below HW7.out hlb)) ?_
    rintro e w8 ⟨rfl, hb8⟩
    have hs8 := hb8.size
    have HB8 := Lib.hid hb8
    clear hb8
    go_wp2_with fail
    refine Calls.mono (by exact sameSm_any w4.heap.size w7.heap.size w8 a4 a7 c4 c7 ls ls (HM4x.out.below (HB8.out.mono (show w4.heap.size ≤ w7.heap.size by omega)) (Nat.le_refl _)) (HM7.out.below HB8.out (Nat.le_refl _))) ?_
    rintro e w9 ⟨b9, rfl, hb9, n9, hw9⟩
    obtain rfl : b9 = true := hb9.2 rfl
    subst hw9
    go_wp2_with fail
    rw [HLL.out]
    refine Calls.mono (by exact sameSm_any w5.heap.size w7.heap.size (w8.drewN n9) a5 a7 c5 c7 y y ((HM5x.out.below (HB8.out.mono (show w5.heap.size ≤ w7.heap.size by omega)) (Nat.le_refl _)).below (drewN_b w8 n9) (by omega)) ((HMY.out.below HB8.out (Nat.le_refl _)).below (drewN_b w8 n9) hs8)) ?_
    rintro e wz ⟨bz, rfl, hbz, nz, hwz⟩
    obtain rfl : bz = true := hbz.2 rfl
    subst hwz
    go_wp2_with fail
    go_ret
    exact ⟨rfl, (HW7.out.trans (HB8.out.mono (by omega))).trans ((drewN_b w8 (n9 + nz)).mono (by omega))⟩

set_option maxHeartbeats 4000000 in
set_option maxRecDepth 100000 in
theorem walk_none (F T N n : Int) (u : Value) (l : List UInt8) (W : World) (hu : Sl 0 W.heap.size f8 W u l) (hl : l.length ≤ 100000) (hT : TabW W) {b o c' b0 o0 c0 b1 o1 c1 b2 o2 c2 : Nat} (hk : BkAt W.heap.size W b o c' b0 o0 c0 b1 o1 c1 b2 o2 c2) (hr : rdo ⟨F, T, N, l⟩ = none) :
    Calls Tryd.prog 5 #[.agg #[.int .i64 F, .int .i64 T, .int .i64 N, u], .int .i64 n] W fun e W' => e = .returned (.bool true) ∧ Below W.heap.size W W' := by
  obtain ⟨au, cu, rfl, _⟩ := hu
  have hu : Sl 0 W.heap.size f8 W (.slice au l.length cu) l := ⟨au, cu, rfl, by assumption⟩
  have hlb : 1 < W.heap.size := block_lt_of_cell (hT 0 (by omega))
  obtain ⟨Wa, hWa⟩ : ∃ Wa, W.alloc (.cells #[.int .i64 F, .int .i64 T, .int .i64 N, .slice au l.length cu] 73) = Wa := ⟨_, rfl⟩
  have hba : Below W.heap.size W Wa := by rw [← hWa]; exact (Below.refl _ _).alloc (Nat.le_refl _) _
  have hbx : Wa.heap[W.heap.size]? = some (.cells #[.int .i64 F, .int .i64 T, .int .i64 N, .slice au l.length cu] 73 (0, 0)) := by rw [← hWa]; exact heap_alloc_new W _
  have hsa : Wa.heap.size = W.heap.size + 1 := by rw [← hWa]; simp
  obtain ⟨k0, k1, k2, k3, kz⟩ := box4 hbx
  have HBA := Lib.hid hba
  have HBX := Lib.hid hbx
  have HSA := Lib.hid hsa
  have HU := Lib.hid hu
  have HT := Lib.hid hT
  have HK := Lib.hid hk
  have HR := Lib.hid hr
  have gl : decide ((100000 : Int) < (l.length : Int)) = false := decide_eq_false (by omega)
  obtain ⟨M, hM⟩ : ∃ M : Nat, (if 0 < n then n else 0) = (M : Int) := ⟨n.toNat, by split <;> omega⟩
  clear hba hbx hsa hu hT hk hr
  go_enter Tryd.func5, Tryd.ntmps5
  go_wp2_with fail
  refine Calls.mono (by exact gzKnown_any Wa (HT.out.below HBA.out hlb)) ?_
  rintro e w1 ⟨rfl, hb1⟩
  have hs1 := hb1.size
  have hb1w := HBA.out.trans (hb1.mono HBA.out.size)
  have HB1 := Lib.hid hb1w
  have hx1 := (hb1.block W.heap.size (by have := HSA.out; omega)).trans HBX.out
  have HX1 := Lib.hid hx1
  obtain ⟨m0, m1, m2, m3, mz⟩ := box4 hx1
  have hs1w := hb1w.size
  clear hb1 hb1w hx1 k0 k1 k2 k3 kz
  go_wp2_with fail
  refine Calls.mono (by exact lentCh_any _ _ _ [⟨F, T, N, l⟩] (chs_lit (c := ⟨F, T, N, l⟩) ((HU.out.below HB1.out (Nat.le_refl _)).mono (Nat.le_refl _) hs1w)) (show 1 ≤ 1000000 by decide)) ?_
  rintro e w2 ⟨us, rfl, hlc, hb2⟩
  obtain ⟨wc, hwc⟩ : ∃ wc, w1.alloc (.cells #[.int .i64 F, .int .i64 T, .int .i64 N, .slice au l.length cu] 73) = wc := ⟨_, rfl⟩
  have hb1c : Below w1.heap.size w1 wc := by rw [← hwc]; exact al_b w1 _
  have hsc : w1.heap.size < wc.heap.size := by rw [← hwc]; simp
  rw [hwc] at hlc hb2 ⊢
  have hs2 := hb2.size
  obtain ⟨u', hus⟩ : ∃ u', us = [u'] := List.length_eq_one_iff.1 hlc.len
  subst hus
  obtain ⟨gi, hgi, hblk, hgil⟩ := hlc.each 0 u' ⟨F, T, N, l⟩ rfl rfl
  dsimp only at hgi hblk
  subst hgi
  have q : w2.heap[wc.heap.size]? = some (.cells #[.int .i64 F, .int .i64 T, .int .i64 N, .slice (some ⟨gi, 0, none⟩) l.length (l.length + 2), .int .i64 0, .int .i64 0, .int .i64 (-77), .slice none 0 0] 73 (0, 0)) := hlc.blk
  have HQ := Lib.hid q
  have HLC := Lib.hid hlc
  have HSL := Lib.hid ((lent_sl (w := w2) (g := gi) (l := l) (by omega) hblk).mono (Nat.zero_le _) (show gi + 1 ≤ w2.heap.size from heap_lt hblk))
  have HB2 := Lib.hid (HB1.out.trans ((hb1c.trans (hb2.mono (by omega))).mono hs1w))
  have hb2x := (hb1c.trans (hb2.mono (by omega))).block W.heap.size (by have := HSA.out; omega)
  have HX2 := Lib.hid (hb2x.trans HX1.out)
  have hgg : wc.heap.size < w2.heap.size := heap_lt q
  obtain ⟨G, hG⟩ : ∃ G, wc.heap.size = G := ⟨_, rfl⟩
  rw [hG] at HQ HLC hgg ⊢
  have p0 : w2.cell? ⟨G, 0, none⟩ = some (.int .i64 F) := (cell_of_row _ _ _ _ _ _ HQ.out).trans rfl
  have p1 : w2.cell? ⟨G, 1, none⟩ = some (.int .i64 T) := (cell_of_row _ _ _ _ _ _ HQ.out).trans rfl
  have p2 : w2.cell? ⟨G, 2, none⟩ = some (.int .i64 N) := (cell_of_row _ _ _ _ _ _ HQ.out).trans rfl
  have p3 : w2.cell? ⟨G, 3, none⟩ = some (.slice (some ⟨gi, 0, none⟩) l.length (l.length + 2)) := (cell_of_row _ _ _ _ _ _ HQ.out).trans rfl
  clear hlc hb2 hblk q hb2x hwc hG m0 m1 m2 m3 mz hb1c
  go_wp2_with fail
  refine Calls.mono (by exact check_any w2 ⟨F, T, N, l⟩ _ 0 w2.heap.size HSL.out (Nat.le_refl _) (HT.out.below HB2.out hlb)) ?_
  rintro e w3 ⟨⟨er, rfl, hcase⟩, hb3⟩
  obtain rfl : er = 101 := by
    rcases hcase with ⟨_, ls, h⟩ | ⟨h, _⟩
    · rw [HR.out] at h; cases h
    · exact h
  have HB3 := Lib.hid hb3
  have hs3 := hb3.size
  have HW3 := Lib.hid (HB2.out.trans (hb3.mono HB2.out.size))
  have q0 := (hb3.cell (p := ⟨G, 0, none⟩) hgg).trans p0
  have q1 := (hb3.cell (p := ⟨G, 1, none⟩) hgg).trans p1
  have q2 := (hb3.cell (p := ⟨G, 2, none⟩) hgg).trans p2
  have q3 := (hb3.cell (p := ⟨G, 3, none⟩) hgg).trans p3
  clear hb3 hcase p0 p1 p2 p3
  go_wp2_with fail
  refine Calls.mono (by exact gall_any w3 ⟨F, T, N, l⟩ _ 0 w2.heap.size (-1) (HSL.out.below HB3.out (Nat.le_refl _)) hs3 (HT.out.below HW3.out hlb)) ?_
  rintro e w4 ⟨v4, rfl, ho4, hb4⟩
  rw [al_neg, HR.out, Option.getD_none] at ho4
  obtain ⟨a4, c4, hv4, hm4⟩ := Sms.owns ho4 (by unfold maxLen; decide) (by simp)
  subst hv4
  have HM4 := Lib.hid hm4
  have hs4 := hb4.size
  have HB4 := Lib.hid (HB3.out.trans (hb4.mono hs3))
  have HW4 := Lib.hid (HB2.out.trans (HB4.out.mono HB2.out.size))
  have r0 := (hb4.cell (p := ⟨G, 0, none⟩) (show G < w3.heap.size by omega)).trans q0
  have r1 := (hb4.cell (p := ⟨G, 1, none⟩) (show G < w3.heap.size by omega)).trans q1
  have r2 := (hb4.cell (p := ⟨G, 2, none⟩) (show G < w3.heap.size by omega)).trans q2
  have r3 := (hb4.cell (p := ⟨G, 3, none⟩) (show G < w3.heap.size by omega)).trans q3
  clear hb4 hm4 ho4 q0 q1 q2 q3
  go_wp2_with fail
  refine Calls.mono (by exact gall_any w4 ⟨F, T, N, l⟩ _ 0 w2.heap.size (M : Int) (HSL.out.below HB4.out (Nat.le_refl _)) (by omega) (HT.out.below HW4.out hlb)) ?_
  rintro e w5 ⟨v5, rfl, ho5, hb5⟩
  rw [al_nat, HR.out, Option.getD_none] at ho5
  obtain ⟨a5, c5, hv5, hm5⟩ := Sms.owns ho5 (by simp) (by simp)
  subst hv5
  have HM5 := Lib.hid hm5
  have hs5 := hb5.size
  have HB5 := Lib.hid (HB4.out.trans (hb5.mono (by omega)))
  have HW5 := Lib.hid (HB2.out.trans (HB5.out.mono HB2.out.size))
  have HM4' := Lib.hid (HM4.out.below hb5 (Nat.le_refl _))
  have hx5 := (HB5.out.block W.heap.size (by have := HSA.out; omega)).trans HX2.out
  have HX5 := Lib.hid hx5
  obtain ⟨m0, m1, m2, m3, mz⟩ := box4 hx5
  have HLC5 := Lib.hid (HLC.out.below HB5.out (Nat.le_refl _))
  clear hb5 hm5 ho5 r0 r1 r2 r3 HM4 hx5
  go_wp2_with fail
  obtain ⟨wd, hwd⟩ : ∃ wd, w5.alloc (.cells #[.int .i64 F, .int .i64 T, .int .i64 N, .slice au l.length cu] 73) = wd := ⟨_, rfl⟩
  have hb5d : Below w5.heap.size w5 wd := by rw [← hwd]; exact al_b w5 _
  have hsd : w5.heap.size < wd.heap.size := by rw [← hwd]; simp
  have hW5 := HW5.out.size
  have hcl := chs_lit (c := ⟨F, T, N, l⟩) ((HU.out.below HW5.out (Nat.le_refl _)).mono (Nat.le_refl _) hW5)
  dsimp only at hcl
  rw [hwd] at hcl ⊢
  refine Calls.mono (by exact wholeCh_any G G wd _ 1 _ [⟨F, T, N, l⟩] (HLC5.out.below hb5d (Nat.le_refl _)) wd.heap.size hcl (show 1 ≤ 1000000 by decide) (by intro c hc; simp at hc; subst hc; show l.length ≤ _; omega)) ?_
  rintro e w6 ⟨rfl, n6, rfl⟩
  obtain ⟨wx, hwx⟩ : ∃ wx, wd.drewN n6 = wx := ⟨_, rfl⟩
  have hbx6 : Below w5.heap.size w5 wx := by rw [← hwx]; exact hb5d.trans ((drewN_b wd n6).mono (by omega))
  rw [hwx]
  have hx6 := (hbx6.block W.heap.size (heap_lt HX5.out)).trans HX5.out
  have hs6 := hbx6.size
  have HB6 := Lib.hid hbx6
  have HW6 := Lib.hid (HW5.out.trans (hbx6.mono hW5))
  have hW6 : W.heap.size ≤ wx.heap.size := by omega
  clear m0 m1 m2 m3 mz hcl hwx hwd hb5d hsd hbx6
  obtain ⟨m0, m1, m2, m3, mz⟩ := box4 hx6
  clear hx6
  go_wp2_with fail
  refine Calls.mono (by exact xall_any wx ⟨F, T, N, l⟩ _ 0 W.heap.size (HU.out.below HW6.out (Nat.le_refl _)) hW6 (show l.length ≤ 1000000 by omega) ((HK.out.below HW6.out).mono hW6)) ?_
  rintro e w7 ⟨⟨bb, ls, v7, rfl, ho7, hf7, hl7, hcase⟩, hb7⟩
  obtain rfl : bb = false := by
    rcases hcase with ⟨_, h2⟩ | ⟨h1, _⟩
    · rw [HR.out] at h2
      cases h2
    · exact h1
  have hs7 := hb7.size
  have HB7 := Lib.hid (HB6.out.trans (hb7.mono hs6))
  have HW7 := Lib.hid (HW6.out.trans (hb7.mono hW6))
  have HM4x := Lib.hid (HM4'.out.below HB7.out hs5)
  have HM5x := Lib.hid (HM5.out.below HB7.out (Nat.le_refl _))
  have hK : (if (M : Int) < 0 then (M : Int) else 0) = 0 := by split <;> omega
  clear hb7 ho7 hf7 hl7 hcase m0 m1 m2 m3 mz HM4'
  go_wp2_with fail
  refine Calls.mono (by exact gzKnown_any w7 (HT.out.below HW7.out hlb)) ?_
  rintro e w8 ⟨rfl, hb8⟩
  have hs8 := hb8.size
  have HB8 := Lib.hid hb8
  clear hb8
  go_wp2_with fail
  have HMX := HM4x.out
  have HMY : Sms w5.heap.size w7 a5 c5 [] := by have := HM5x.out; rwa [List.take_nil] at this
  have hq1 := sameSm_any w4.heap.size 0 w8 a4 none c4 0 [] [] (HMX.below (HB8.out.mono (show w4.heap.size ≤ w7.heap.size by omega)) (Nat.le_refl _)) ⟨Nat.zero_le _, fun h => absurd rfl h⟩
  simp only [List.length_nil] at hq1
  refine Calls.mono (by exact hq1) ?_
  rintro e w9 ⟨b9, rfl, hb9, n9, hw9⟩
  obtain rfl : b9 = true := hb9.2 trivial
  subst hw9
  have hq2 := sameSm_any w5.heap.size 0 (w8.drewN n9) a5 none c5 0 [] [] ((HMY.below (HB8.out.mono (show w5.heap.size ≤ w7.heap.size by omega)) (Nat.le_refl _)).below (drewN_b w8 n9) (by omega)) ⟨Nat.zero_le _, fun h => absurd rfl h⟩
  simp only [List.length_nil] at hq2
  have HQ2 := Lib.hid hq2
  clear hq1 hq2 HMX HMY
  go_wp2_with fail
  refine Calls.mono (by exact HQ2.out) ?_
  rintro e wz ⟨bz, rfl, hbz, nz, hwz⟩
  obtain rfl : bz = true := hbz.2 trivial
  subst hwz
  go_wp2_with fail
  go_ret
  exact ⟨rfl, (HW7.out.trans (HB8.out.mono (by omega))).trans ((drewN_b w8 (n9 + nz)).mono (by omega))⟩
end Go.Proofs.YtepjpdhmjchakaaDoor.gorillaReads

/- The law GorillaReads returns true for every input and leaves its arguments as they were; its tied card. Conditions of the row: the library's table of trailing noughts and the document's list of buckets read as the program's text lays them (the card ties them to that text). -/
namespace Go.Proofs.YtepjpdhmjchakaaDoor.gorillaReads
open Go.ChangeShapes Go.WideShapes Go.ChangeAt Go.RowKit
set_option linter.unusedVariables false

/-- The row's list. -/
def laid1 : List (String × DataW Unit) := [("math/bits.deBruijn64tab", Rows.laid_math_bits_deBruijn64tab), ("barograph/barographref10.buckets", Rows.laid_barograph_barographref10_buckets)]

theorem own : ownKnob Tryd.prog.godebug = none := by kernel_rfl
theorem laidOut : laidOutB Tryd.prog = true := by kernel_rfl
theorem gTab : Tryd.prog.globalNamed "math/bits.deBruijn64tab" = some 1 := by kernel_rfl
theorem tTab : (Tryd.prog.globals[1]?).map (·.type) = some 238 := by kernel_rfl
theorem door_met (os : Os) (args : Array Value) : laidMetH Tryd.prog laid1 ((World.doorLaid Tryd.prog 22 os).forCall (fun _ _ => 0) ⟨#[], args, []⟩).memory :=
  laidMetH_of_parts3 (fuel := 8) (laidMet_of_run' 8 (by kernel_rfl) (by kernel_rfl)) (by kernel_rfl) (by kernel_rfl)

theorem laid_eq : (Rows.laid_math_bits_deBruijn64tab : DataW Unit) = .agg (Lib.deBruijn64tab.map fun (n : Nat) => .lit (.int .u8 (n : Int))) := by rfl
theorem tab_len : Lib.deBruijn64tab.length = 64 := by decide +kernel

theorem gBk : Tryd.prog.globalNamed "barograph/barographref10.buckets" = some 0 := by kernel_rfl
theorem tBk : (Tryd.prog.globals[0]?).map (·.type) = some 33 := by kernel_rfl
theorem undRows : Tryd.prog.underlying 33 = some (.slice 167) := by kernel_rfl
theorem undRow : Tryd.prog.underlying 167 = some (.slice 2) := by kernel_rfl
/-- A list of numbers, read. -/
theorem row_of {W : World} {v : Value} {p : List MemPlace} {f : Nat} (vals : List Int) (h : DataW.trod (fun _ => ()) Tryd.prog W 0 (fun _ => true) false f 167 [v] = some (.slice (vals.map fun x => .lit (.int .i64 x)) [], p)) (hne : 0 < vals.length) :
    ∃ b o c, v = .slice (some ⟨b, o, none⟩) vals.length c ∧ b < W.heap.size ∧ ∀ j (hj : j < vals.length), W.cell? ⟨b, o + j, none⟩ = some (.int .i64 vals[j]) := by
  have c1 : Tryd.prog.cellsOf 2 = 1 := by kernel_rfl
  rcases Go.Deep.open_slice1 undRow c1 h with ⟨_, h0⟩ | ⟨a, len, cap, m, n, V, D, Pl, hcs, hb, hl, hm, hmm, hx, hel⟩
  · injection h0 with h0
    cases h0
  · injection hcs with hv
    subst hv
    injection hx with hd _
    injection hd with hd _
    have hlen : len = vals.length := by have := congrArg List.length hd; simpa using this.symm
    subst hlen
    have hmc : m = cap := by rw [hmm]; rfl
    have key : ∀ j (hj : j < vals.length), W.cell? (a.add j) = some (.int .i64 vals[j]) := fun j hj => by
      obtain ⟨h1, h2⟩ := hel j (by omega)
      obtain ⟨k, e1, e2, _⟩ := DataW.trod_int Tryd.underlying2 h2
      have h3 := congrArg (fun l : List (DataW Unit) => l[j]?) hd
      simp [hj] at h3
      rw [← h3] at e2
      have e4 := congrArg Prod.fst e2
      simp only [DataW.lit.injEq, Lit.int.injEq, true_and] at e4
      have e3 : V j = .int .i64 k := by simpa using e1
      rw [h1, e3, e4]
    obtain ⟨b, off, sp⟩ := a
    obtain rfl : sp = none := by
      have := World.cell?_spot (key 0 hne)
      simpa [Addr.add] using this
    refine ⟨b, off, cap, rfl, ?_, fun j hj => ?_⟩
    · have := block_lt_of_cell (key 0 hne)
      simpa [Addr.add] using this
    · have := key j hj
      rwa [Addr.add_lit] at this
/-- What the row's second condition gives the walk. -/
theorem of_laid2 {W : World} (h : laidMetH Tryd.prog laid1 W) : ∃ b o c b0 o0 c0 b1 o1 c1 b2 o2 c2, BkAt W.heap.size W b o c b0 o0 c0 b1 o1 c1 b2 o2 c2 := by
  rw [MakeChecks.laidMetH_plain _ _ _ (by kernel_rfl)] at h
  obtain ⟨ps, ⟨_, _, _, _, _, _, _, _, _, _, ⟨g0, t0, cs0, f0, p0, q0, hg0, ht0, hv0, hd0, _, _⟩, _⟩, _, _⟩ := h
  obtain rfl := Option.some.inj (gBk.symm.trans hg0)
  obtain rfl := Option.some.inj (tBk.symm.trans ht0)
  have cR : Tryd.prog.cellsOf 167 = 1 := by kernel_rfl
  rcases Go.Deep.open_slice1 undRows cR hd0 with ⟨_, h0⟩ | ⟨a, len, cap, m, n, V, D, Pl, hcs, hb, hl, hm, hmm, hx, hel⟩
  · injection h0 with h0
    cases h0
  · injection hx with hd _
    injection hd with hd _
    have hlen : len = 3 := by have := congrArg List.length hd; simpa using this.symm
    subst hlen
    have hmc : m = cap := by rw [hmm]; rfl
    have hD : ∀ j (hj : j < 3), D j = (([[2, 2, -63, 64, 7], [6, 3, -255, 256, 9], [14, 4, -2047, 2048, 12]] : List (List Int)).map fun vals => (DataW.slice (vals.map fun x => .lit (.int .i64 x)) [] : DataW Unit))[j]'(by simpa using hj) := fun j hj => by
      have h3 := congrArg (fun l : List (DataW Unit) => l[j]?) hd
      simp only [List.getElem?_map] at h3
      rw [List.getElem?_range hj] at h3
      match j, hj with
      | 0, _ => simpa using h3.symm
      | 1, _ => simpa using h3.symm
      | 2, _ => simpa using h3.symm
    obtain ⟨v0, t0⟩ := hel 0 (by omega)
    obtain ⟨v1, t1⟩ := hel 1 (by omega)
    obtain ⟨v2, t2⟩ := hel 2 (by omega)
    rw [hD 0 (by omega)] at t0
    rw [hD 1 (by omega)] at t1
    rw [hD 2 (by omega)] at t2
    obtain ⟨b0, o0, c0, e0, l0, k0⟩ := row_of [2, 2, -63, 64, 7] t0 (by decide)
    obtain ⟨b1, o1, c1, e1, l1, k1⟩ := row_of [6, 3, -255, 256, 9] t1 (by decide)
    obtain ⟨b2, o2, c2, e2, l2, k2⟩ := row_of [14, 4, -2047, 2048, 12] t2 (by decide)
    rw [e0] at v0
    rw [e1] at v1
    rw [e2] at v2
    obtain ⟨b, off, sp⟩ := a
    obtain rfl : sp = none := by
      have := World.cell?_spot v0
      simpa [Addr.add] using this
    have hvar := World.var?_cell hg0 hv0 0
    have hc0 : cs0[0]? = some (.slice (some ⟨b, off, none⟩) 3 cap) := by
      rw [← Array.getElem?_toList, hcs]; rfl
    rw [hc0] at hvar
    rw [Addr.add_lit] at v0 v1 v2
    exact ⟨b, off, cap, b0, o0, c0, b1, o1, c1, b2, o2, c2, ⟨⟨block_lt_of_cell hvar, block_lt_of_cell v0, l0, l1, l2⟩, hvar, v0, v1, v2,
      k0 0 (by decide), k0 1 (by decide), k0 2 (by decide), k0 3 (by decide), k0 4 (by decide), k1 0 (by decide), k1 1 (by decide), k1 2 (by decide), k1 3 (by decide), k1 4 (by decide), k2 0 (by decide), k2 1 (by decide), k2 2 (by decide), k2 3 (by decide), k2 4 (by decide)⟩⟩
/-- What the row's first condition gives the walk. -/
theorem of_laid {W : World} (h : laidMetH Tryd.prog laid1 W) : TabW W := by
  rw [MakeChecks.laidMetH_plain _ _ _ (by kernel_rfl)] at h
  obtain ⟨ps, ⟨g0, t0, cs0, f0, p0, q0, hg0, ht0, hv0, hd0, _, _⟩, _, _⟩ := h
  obtain rfl := Option.some.inj (gTab.symm.trans hg0)
  obtain rfl := Option.some.inj (tTab.symm.trans ht0)
  obtain ⟨xs, m1, rfl, hx1, hlen, hn, hel⟩ := DataW.trod_array Tryd.underlying238 hd0
  have c5 : Tryd.prog.cellsOf 5 = 1 := by kernel_rfl
  have hd := congrArg Prod.fst hx1
  rw [laid_eq] at hd
  injection hd with hd
  intro j hj
  have hj1 := hel j hj
  rw [c5, Nat.mul_one, List.getElem?_eq_getElem (by omega)] at hj1
  obtain ⟨k, e1, e2, _⟩ := DataW.trod_int Tryd.underlying5 hj1
  have h1 := congrArg (fun l : List (DataW Unit) => l[j]?) hd
  simp only [List.getElem?_map] at h1
  rw [List.getElem?_eq_getElem (by rw [tab_len]; exact hj), List.getElem?_eq_getElem (by omega), e2] at h1
  simp only [Option.map_some, Option.some.injEq, DataW.lit.injEq, Lit.int.injEq, true_and] at h1
  have h2 := congrArg (fun l : List Value => l[0]?) e1
  simp only [List.getElem?_take, List.getElem?_drop, Nat.add_zero, Nat.lt_add_one, if_true, List.getElem?_cons_zero] at h2
  have h3 := World.var?_cell hg0 hv0 j
  rw [h3, List.getD_eq_getElem?_getD, List.getElem?_eq_getElem (by rw [tab_len]; exact hj), Option.getD_some, h1, ← Array.getElem?_toList]
  simpa using h2

set_option maxRecDepth 100000 in
theorem lifted (os : Os) (started : os.Started) (H : Type) (enc : TypeId × Value → H) :
    ReturnsInHanded {} Tryd.checked os 5 .any (fun w args => (Rows.gorillaReadsSpec.pre enc Tryd.prog Tryd.f5 [] false w args ∧ laidMetH Tryd.prog laid1 w) ∧ sizedMet enc Tryd.prog Tryd.f5 (OpenSpec.ofChange Rows.gorillaReadsSpec) false w args)
      (Rows.gorillaReadsSpec.post enc Tryd.prog Tryd.f5 false true false false) := by
  refine returnsInHanded_of_change_and (C := Tryd.checked) (X := fun w _ => laidMetH Tryd.prog laid1 w) (fun _ _ _ hh h => h.of_heap hh) own started (by kernel_rfl) Tryd.func5
    (ChangeSpec.witness_shaped (enc := enc) (C := Tryd.checked) (os := os) (X := fun w _ => laidMetH Tryd.prog laid1 w) false (World.doorLaid Tryd.prog 22 os) #[.agg #[.int .i64 0, .int .i64 0, .int .i64 0, .slice none 0 0], .int .i64 0] 8 rfl (World.shaped_of_RefB (by kernel_rfl) (by kernel_rfl)) (by kernel_rfl) (by kernel_rfl) (by kernel_rfl) (door_met os _)) ?_
  intro W base args ds gs before hval0 hW _ _ hL _
  have hval : ∀ (j : Nat) t v, Tryd.f5.params[j]? = some t → args[j]? = some v → Value.okWide Tryd.prog W .any base t v := hval0
  have hW' := hW
  obtain ⟨p, q, hA0, hV, rfl, hfz, hnd⟩ := hW
  have hA : DataW.TrodAll enc Tryd.prog W 0 (fun _ => true) true Tryd.f5.params.toList args.toList ds p := hA0
  rw [Tryd.params5] at hA hval
  obtain ⟨v0, vs0, d0, ds0, p0, q0, hargs, rfl, rfl, h0, r0⟩ := trodAll_cons hA
  obtain ⟨v1, vs1, d1, ds1, p1, q1, rfl, rfl, rfl, h1, r1⟩ := trodAll_cons r0
  obtain ⟨rfl, rfl, rfl⟩ := trodAll_nil r1
  obtain rfl : args = #[v0, v1] := by cases args; simp_all
  obtain ⟨rfl, rfl⟩ := trodVars_none hV
  obtain ⟨fs, hs, _⟩ := fields_of fieldsCh
  obtain ⟨cs, rfl, hcs⟩ := okWide_struct hs (hval 0 73 v0 rfl rfl)
  have k0 := h0
  have lt0 : ∀ x ∈ p0, x.block < W.heap.size := by obtain ⟨m, hm⟩ := k0; exact DataW.trod_lt m _ _ _ hm
  obtain ⟨F, T, N, a, len, cap, zs, rfl, hrow⟩ : ∃ F T N a len cap zs, cs = #[.int .i64 F, .int .i64 T, .int .i64 N, .slice a len cap] ∧ IsRow .u8 W a len cap zs := by
    obtain ⟨fuel, hf⟩ := h0
    obtain ⟨F, T, N, a, len, cap, zs, e, hr⟩ := open_chunk hf
    exact ⟨F, T, N, a, len, cap, zs, Array.ext' (show cs.toList = _ from e), hr⟩
  have k1 := h1
  have lt1 : ∀ x ∈ p1, x.block < W.heap.size := by obtain ⟨m, hm⟩ := k1; exact DataW.trod_lt m _ _ _ hm
  obtain ⟨n, rfl⟩ : ∃ n, v1 = .int .i64 n := okWide_int Tryd.underlying3 (hval 1 3 v1 rfl rfl)
  clear hA0 hval0
  obtain ⟨b, o, c, b0, o0, c0, b1, o1, c1, b2, o2, c2, hbk⟩ := of_laid2 hL
  have hwalk : Calls Tryd.prog 5 #[.agg #[.int .i64 F, .int .i64 T, .int .i64 N, .slice a len cap], .int .i64 n] W fun e W' => e = .returned (.bool true) ∧ Below W.heap.size W W' := by
    by_cases hl : len ≤ 100000
    · obtain ⟨l, rfl, hsl⟩ := hrow.sl (by omega)
      cases hr : rdo ⟨F, T, N, l⟩ with
      | none => exact walk_none F T N n _ l W ⟨a, cap, rfl, hsl⟩ hl (of_laid hL) hbk hr
      | some p => exact walk_some F T N n _ l W ⟨a, cap, rfl, hsl⟩ hl (of_laid hL) hbk p hr
    · exact walk_long F T N n a len cap W (by omega)
  refine hwalk.mono fun e W' ⟨he, bel⟩ => ?_
  subst he
  exact ⟨_, rfl, _, _, _, [], _, [], hW', trodAll_mk1 (shut_bool Tryd.underlying4 _), (trodAll_cons_mk (Below.trod laidOut (by kernel_rfl) (of_decide_eq_true (by kernel_rfl)) k0 bel lt0) (trodAll_cons_mk (Below.trod laidOut (by kernel_rfl) (of_decide_eq_true (by kernel_rfl)) k1 bel lt1) trodAll_mk0)), rfl, bel.frame _, fun h => by cases h⟩

theorem over : Rows.GorillaReadsSaid :=
  OpenClaim.holds_of_wide 5 Tryd.f5 rfl rfl rfl rfl rfl rfl rfl ⟨rfl, rfl, rfl, rfl, rfl⟩ rfl rfl rfl rfl rfl (by kernel_rfl) Tryd.func5 (by kernel_rfl)
    (of_decide_eq_true (by kernel_rfl)) (by unfold Func.isWrapper; first | (rw [if_pos (by decide +kernel)]; kernel_rfl) | (rw [if_neg (by decide +kernel)]; exact ⟨rfl, rfl⟩))
    (fun os started H enc _ => lifted os started H enc)

/-- The given statement: the tied card. -/
theorem proved : Rows.GorillaReadsCardSaid :=
  Claim7.holds_tied_plain_at .later [] [.data, .widerDeep] true (true, "5ed60add69ce5d7621398281b6f3043d088f7c892a725314b3645a821253ada9") false
    over (fun _ h => by cases h) (by kernel_rfl) (fun _ h => by cases h) gorillaReads_row_tie rfl ⟨rfl, rfl⟩ (by kernel_rfl) rfl
    (fun f fn hf hfn => by
      obtain rfl : f = 5 := Option.some.inj ((show Tryd.prog.funcNamed "barograph/barographlaw10.GorillaReads" = some 5 by kernel_rfl).symm.trans hf) |>.symm
      obtain rfl : fn = Tryd.f5 := (Option.some.inj (Tryd.func5.symm.trans hfn)).symm
      exact ⟨by kernel_rfl, fun j t ht => by
        rw [Tryd.params5] at ht
        have hm : t ∈ [73, 3] := by simpa using Array.mem_of_getElem? ht
        have hall : ([73, 3].all fun u => !Tryd.prog.wantsStandIn u) = true := by kernel_rfl
        exact (show Tryd.prog.wantsStandIn t = false by simpa using List.all_eq_true.1 hall t hm)⟩)
    (by kernel_rfl)
#print axioms proved
end Go.Proofs.YtepjpdhmjchakaaDoor.gorillaReads
