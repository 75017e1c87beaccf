/- Words of 32 bits and bytes as the walk's integers, behind names that its simp does not open. No condition. -/
import Derived.WalkKit
import Derived.WalkSpells
import Derived.WalkLawsBesides
import Derived.Laws.BitsAllLaws
import Derived.Laws.Rows
import Derived.Laws.Tables
import Derived.Laws.CopyRow
import Derived.Lib.Hide
import Derived.Laws.AppendOwnNone
import Derived.Laws.AppendOwn
import Derived.ProofKit
import Derived.OpenShut
section
namespace Go.Proofs.YtoodbdjmbicaeaaGreatDoor
open Go.RowKit

/-- A word of 32 bits as an integer. -/
def W32 (x : BitVec 32) : Int := x.toNat
/-- A byte as an integer. -/
def W8 (x : UInt8) : Int := x.toNat

theorem W32_def (x : BitVec 32) : W32 x = (x.toNat : Int) := rfl
theorem W8_def (x : UInt8) : W8 x = (x.toNat : Int) := rfl
theorem W32_lt (x : BitVec 32) : 0 ≤ W32 x ∧ W32 x < 4294967296 := by have := x.isLt; unfold W32; omega
theorem W8_lt (x : UInt8) : 0 ≤ W8 x ∧ W8 x < 256 := by have := x.toNat_lt; unfold W8; omega
theorem W32_inj {x y : BitVec 32} (h : W32 x = W32 y) : x = y := by unfold W32 at h; exact BitVec.eq_of_toNat_eq (by omega)
theorem W8_inj {x y : UInt8} (h : W8 x = W8 y) : x = y := by unfold W8 at h; exact UInt8.toNat_inj.1 (by omega)
theorem W32_wf (x : BitVec 32) : (Lit.int .u32 (W32 x)).wf = true := by have := W32_lt x; exact WalkArith.wf_u32 (by omega)
theorem W8_wf (x : UInt8) : (Lit.int .u8 (W8 x)).wf = true := by have := W8_lt x; exact WalkArith.wf_u8 (by omega)

theorem W32_ofInt (x : BitVec 32) : BitVec.ofInt 32 (W32 x) = x := by unfold W32; rw [BitVec.ofInt_natCast, BitVec.ofNat_toNat, BitVec.setWidth_eq]
theorem W8_ofInt32 (x : UInt8) : BitVec.ofInt 32 (W8 x) = x.toBitVec.setWidth 32 := by
  unfold W8; rw [BitVec.ofInt_natCast]; apply BitVec.eq_of_toNat_eq; simp
theorem lit_ofInt32 (n : Nat) : BitVec.ofInt 32 (@OfNat.ofNat Int n _) = BitVec.ofNat 32 n := BitVec.ofInt_natCast 32 n
theorem wrap_toNat32 (x : BitVec 32) : IntKind.u32.wrap (x.toNat : Int) = W32 x := by
  have := x.isLt; unfold W32; rw [IntKind.wrap_u32']; omega

theorem W32_xor (x y : BitVec 32) : bits .xor .u32 (W32 x) (W32 y) = W32 (x ^^^ y) := by
  show IntKind.u32.wrap ((BitVec.ofInt 32 (W32 x) ^^^ BitVec.ofInt 32 (W32 y)).toNat : Int) = _
  rw [W32_ofInt, W32_ofInt, wrap_toNat32]
theorem W32_and (x y : BitVec 32) : bits .and .u32 (W32 x) (W32 y) = W32 (x &&& y) := by
  show IntKind.u32.wrap ((BitVec.ofInt 32 (W32 x) &&& BitVec.ofInt 32 (W32 y)).toNat : Int) = _
  rw [W32_ofInt, W32_ofInt, wrap_toNat32]
theorem W32_or (x y : BitVec 32) : bits .or .u32 (W32 x) (W32 y) = W32 (x ||| y) := by
  show IntKind.u32.wrap ((BitVec.ofInt 32 (W32 x) ||| BitVec.ofInt 32 (W32 y)).toNat : Int) = _
  rw [W32_ofInt, W32_ofInt, wrap_toNat32]
theorem W32_xor8 (x : BitVec 32) (y : UInt8) : bits .xor .u32 (W32 x) (W8 y) = W32 (x ^^^ y.toBitVec.setWidth 32) := by
  show IntKind.u32.wrap ((BitVec.ofInt 32 (W32 x) ^^^ BitVec.ofInt 32 (W8 y)).toNat : Int) = _
  rw [W32_ofInt, W8_ofInt32, wrap_toNat32]
theorem W32_xor_lit (x : BitVec 32) (n : Nat) : bits .xor .u32 (W32 x) (no_index (@OfNat.ofNat Int n _)) = W32 (x ^^^ BitVec.ofNat 32 n) := by
  show IntKind.u32.wrap ((BitVec.ofInt 32 (W32 x) ^^^ BitVec.ofInt 32 (@OfNat.ofNat Int n _)).toNat : Int) = _
  rw [W32_ofInt, lit_ofInt32, wrap_toNat32]
theorem W32_and_lit (x : BitVec 32) (n : Nat) : bits .and .u32 (W32 x) (no_index (@OfNat.ofNat Int n _)) = W32 (x &&& BitVec.ofNat 32 n) := by
  show IntKind.u32.wrap ((BitVec.ofInt 32 (W32 x) &&& BitVec.ofInt 32 (@OfNat.ofNat Int n _)).toNat : Int) = _
  rw [W32_ofInt, lit_ofInt32, wrap_toNat32]
theorem W32_not (x : BitVec 32) : bits .xor .u32 IntKind.u32.max (W32 x) = W32 (~~~x) := by
  rw [show IntKind.u32.max = W32 (BitVec.allOnes 32) from by decide, W32_xor, BitVec.allOnes_xor]
theorem W32_shr (x : BitVec 32) (yk : IntKind) (n : Nat) (h : n ≤ 32) : Op.shift .shr .u32 (W32 x) yk (no_index (@OfNat.ofNat Int n _)) = pure (.int .u32 (W32 (x >>> n))) := by
  have e : (@OfNat.ofNat Int n _ : Int) = (n : Int) := rfl
  rw [shift_shr .u32 yk _ _ (by rw [e]; omega) (by rw [e]; simp [IntKind.bits]; omega), e]
  congr 2
  unfold W32
  rw [BitVec.toNat_ushiftRight, Nat.shiftRight_eq_div_pow, Int.toNat_natCast]
  rw [Int.natCast_ediv, Int.natCast_pow]; rfl
theorem W8_ofInt (x : UInt8) : BitVec.ofInt 8 (W8 x) = x.toBitVec := by unfold W8; rw [BitVec.ofInt_natCast]; apply BitVec.eq_of_toNat_eq; simp
theorem W8_xor (x y : UInt8) : bits .xor .u8 (W8 x) (W8 y) = W8 (x ^^^ y) := by
  show IntKind.u8.wrap ((BitVec.ofInt 8 (W8 x) ^^^ BitVec.ofInt 8 (W8 y)).toNat : Int) = _
  rw [W8_ofInt, W8_ofInt, IntKind.wrap_u8', ← UInt8.toBitVec_xor]
  have := (x ^^^ y).toNat_lt
  show (((x ^^^ y).toNat : Int) % 256) = ((x ^^^ y).toNat : Int)
  omega
attribute [go_sem] W8_xor
attribute [go_sem] W32_xor W32_and W32_or W32_xor8 W32_xor_lit W32_and_lit W32_not
attribute [go_sem high] W32_shr
end Go.Proofs.YtoodbdjmbicaeaaGreatDoor
end
section
namespace Go.Proofs.YtoodbdjmbicaeaaGreatDoor
open Go.RowKit

/-- From block lo on, below block hi, the two worlds hold the same. -/
def Same (lo hi : Nat) (w w' : World) : Prop := ∀ k, lo ≤ k → k < hi → w'.heap[k]? = w.heap[k]?

theorem Same.refl (lo hi : Nat) (w : World) : Same lo hi w w := fun _ _ _ => rfl
theorem Same.trans {lo hi : Nat} {a b c : World} (h : Same lo hi a b) (k : Same lo hi b c) : Same lo hi a c := fun i h1 h2 => (k i h1 h2).trans (h i h1 h2)
theorem Same.mono {lo hi lo' hi' : Nat} {w w' : World} (h : Same lo hi w w') (h1 : lo ≤ lo') (h2 : hi' ≤ hi) : Same lo' hi' w w' := fun k a b => h k (by omega) (by omega)
theorem Same.ofBelow {B : Nat} {w w' : World} (h : Below B w w') (lo hi : Nat) (hh : hi ≤ B) : Same lo hi w w' := fun k _ b => h.block k (by omega)

/-- What a slice of the elements l leads to: each is the one cell that f makes of it; its block lies from lo on, below hi. -/
structure SlC {α : Type} (lo hi : Nat) (f : α → Value) (w : World) (ao : Option Addr) (cap : Nat) (l : List α) : Prop where
  len : l.length ≤ 140737488355328
  nn : ao = none → cap = 0
  cells : l ≠ [] → ∃ b off, ao = some ⟨b, off, none⟩ ∧ lo ≤ b ∧ b < hi ∧ ∀ j (h : j < l.length), w.cell? ⟨b, off + j, none⟩ = some (f l[j])
  le : l.length ≤ cap

/-- The slice v has the elements l. -/
def Sl {α : Type} (lo hi : Nat) (f : α → Value) (w : World) (v : Value) (l : List α) : Prop :=
  ∃ ao cap, v = .slice ao l.length cap ∧ SlC lo hi f w ao cap l

/-- A byte's cell. -/
def f8 (x : UInt8) : Value := .int .u8 (W8 x)

section
variable {α : Type} {lo hi lo' hi' B : Nat} {f : α → Value} {w w' : World} {v : Value} {l : List α} {ao : Option Addr} {cap : Nat}
theorem SlC.same (h : SlC lo hi f w ao cap l) (hs : Same lo hi w w') : SlC lo hi f w' ao cap l := by
  obtain ⟨hl, hn, hc, hle⟩ := h
  refine ⟨hl, hn, fun hne => ?_, hle⟩
  obtain ⟨b, off, ha, h1, h2, hcell⟩ := hc hne
  exact ⟨b, off, ha, h1, h2, fun j hj => (World.cell?_of_block (w := w) (hs b h1 h2)).trans (hcell j hj)⟩
theorem SlC.mono (h : SlC lo hi f w ao cap l) (h1 : lo' ≤ lo) (h2 : hi ≤ hi') : SlC lo' hi' f w ao cap l := by
  obtain ⟨hl, hn, hc, hle⟩ := h
  refine ⟨hl, hn, fun hne => ?_, hle⟩
  obtain ⟨b, off, ha, h3, h4, hcell⟩ := hc hne
  exact ⟨b, off, ha, by omega, by omega, hcell⟩
theorem SlC.below (h : SlC lo hi f w ao cap l) (hb : Below B w w') (hh : hi ≤ B) : SlC lo hi f w' ao cap l :=
  h.same (Same.ofBelow hb _ _ hh)
theorem SlC.none (h : SlC lo hi f w ao cap l) (hn : ao = none) : l.length = 0 ∧ cap = 0 := by
  refine ⟨?_, h.nn hn⟩
  cases l with
  | nil => rfl
  | cons a l => obtain ⟨b, off, ha, _⟩ := h.cells (by simp); rw [hn] at ha; cases ha
/-- The cells, as the laws on append ask for them. -/
theorem SlC.news (h : SlC lo hi f w ao cap l) : ∀ ad, ao = some ad → ∀ j u, (l.map f)[j]? = some u → w.cell? (ad.add j) = some u := by
  intro ad had j u hu
  have hj : j < l.length := by
    have := (List.getElem?_eq_some_iff.1 hu).1
    simpa using this
  obtain ⟨b, off, ha, _, _, hcell⟩ := h.cells (by intro e; subst e; simp at hj)
  rw [had] at ha
  injection ha with ha
  subst ha
  rw [Addr.add_lit, hcell j hj]
  rw [← hu, List.getElem?_map, List.getElem?_eq_getElem hj]; rfl
theorem Sl.same (h : Sl lo hi f w v l) (hs : Same lo hi w w') : Sl lo hi f w' v l := by
  obtain ⟨ao, cap, hv, h⟩ := h; exact ⟨ao, cap, hv, h.same hs⟩
theorem Sl.mono (h : Sl lo hi f w v l) (h1 : lo' ≤ lo) (h2 : hi ≤ hi') : Sl lo' hi' f w v l := by
  obtain ⟨ao, cap, hv, h⟩ := h; exact ⟨ao, cap, hv, h.mono h1 h2⟩
theorem Sl.below (h : Sl lo hi f w v l) (hb : Below B w w') (hh : hi ≤ B) : Sl lo hi f w' v l :=
  h.same (Same.ofBelow hb _ _ hh)
theorem Sl.len (h : Sl lo hi f w v l) : l.length ≤ 140737488355328 := by
  obtain ⟨_, _, _, h⟩ := h; exact h.len
end
/-- The cells of a block that has just been laid. -/
theorem news_alloc (w : World) (cs : List Value) (t : TypeId) : ∀ j u, cs[j]? = some u → (w.alloc (.cells cs.toArray t)).cell? ((⟨w.heap.size, 0, none⟩ : Addr).add j) = some u := by
  intro j u hu
  rw [Addr.add_lit, cell_of_row _ _ _ _ _ _ (heap_alloc_new w _), Nat.zero_add]
  simpa using hu
theorem f8_one (l : List UInt8) : ∀ u ∈ l.map f8, u.oneCell' = true := by
  intro u hu
  obtain ⟨_, _, rfl⟩ := List.mem_map.1 hu
  rfl
theorem Sl.nil {α : Type} (lo hi : Nat) (f : α → Value) (w : World) : Sl lo hi f w (.slice none 0 0) ([] : List α) := ⟨none, 0, rfl, by simp, fun _ => rfl, fun h => absurd rfl h, by simp⟩

/-- A row of the call's own that is full: its block's very cells. -/
theorem own_full {w : World} {base : Nat} {e : TypeId} {g n : Nat} {xs : List Value} (h : w.ownsRow base e 1 (.slice (some ⟨g, 0, none⟩) n n) n xs) :
    base ≤ g ∧ w.heap[g]? = some (.cells xs.toArray e (0, 0)) := by
  obtain ⟨hl, h | ⟨g', cap, cur, hv, hb, hh, h1, h2, h3, h4⟩⟩ := h
  · simp at h
  · simp only [Value.slice.injEq, Option.some.injEq, Addr.mk.injEq] at hv
    obtain ⟨⟨rfl, -⟩, -, rfl⟩ := hv
    refine ⟨hb, ?_⟩
    rw [hh, ← h4, Nat.mul_one, List.take_of_length_le (by simp [h3])]
/-- Of a row that the call owns its slice has the elements. -/
theorem Sl.owns {α : Type} {w : World} {base : Nat} {e : TypeId} {f : α → Value} {v : Value} {l : List α} (h : w.ownsRow base e 1 v l.length (l.map f)) (hl : l.length ≤ 140737488355328) :
    Sl base w.heap.size f w v l := by
  obtain ⟨_, ⟨rfl, hn⟩ | ⟨g, cap, cur, rfl, hb, hh, h1, h2, h3, h4⟩⟩ := h
  · exact ⟨none, 0, by rw [hn], hl, fun _ => rfl, fun hne => absurd (List.eq_nil_of_length_eq_zero hn) hne, by omega⟩
  · refine ⟨_, cap, rfl, hl, (fun h => by cases h), fun _ => ⟨g, 0, rfl, hb, ?_, fun j hj => ?_⟩, h1⟩
    · rcases Nat.lt_or_ge g w.heap.size with h | h
      · exact h
      · rw [Array.getElem?_eq_none h] at hh; cases hh
    · rw [cell_of_row _ _ _ _ _ _ hh, Nat.zero_add, ← Array.getElem?_toList]
      have h5 := congrArg (fun (t : List Value) => t[j]?) h4
      simp only [List.getElem?_take, Nat.mul_one, hj, if_true, List.getElem?_map, List.getElem?_eq_getElem hj, Option.map_some] at h5
      exact h5
end Go.Proofs.YtoodbdjmbicaeaaGreatDoor
end
section
namespace Go.Proofs.YtoodbdjmbicaeaaGreatDoor
open Go.RowKit

theorem wpList_append_sl {P : Program} {w : World} {ops : Array Oper} {rest : List Oper} {o : Oper} {a : Act} {Q : Exit → Act → World → Prop} (hgd : o.guard = none) (s x : Operand) (t : TypeId)
    (ho : o.op = .call { callee := .builtin .append, args := #[s, x], argTypes := #[t, t] })
    (base : Nat) (e : TypeId) (i : TypeInfo) (z : Value) (bytes : Nat) (ht : P.underlying t = some (.slice e)) (hi : P.info? e = some i) (hz : i.zero = some z)
    (hsize : i.size = 1) (hby : i.bytes = bytes) (hzs : z.cells.size = 1)
    (v : Value) (n : Nat) (xs : List Value) (hs : a.eval s = v) (hown : w.ownsRow base e 1 v n xs)
    {α : Type} {lo hi' : Nat} {f : α → Value} (ao : Option Addr) (cap : Nat) (l : List α) (hx : a.eval x = .slice ao l.length cap) (hsl : SlC lo hi' f w ao cap l) (h1 : ∀ u ∈ l.map f, u.oneCell' = true)
    (h63 : n + l.length ≤ maxLen) (hbytes : (n + l.length) * bytes ≤ 140737488355328) (hbase : base ≤ w.heap.size)
    (h : ∀ v' w', w'.ownsRow base e 1 v' (n + l.length) (xs ++ l.map f) → w.grownBy w' v.ownBlock → wpList P ops Q rest (a.put o.dst v') w') : wpList P ops Q (o :: rest) a w := by
  cases ao with
  | none =>
    obtain ⟨h0, hc⟩ := hsl.none rfl
    have hl : l = [] := List.eq_nil_of_length_eq_zero h0
    subst hl
    subst hc
    refine wpList_append_own_none hgd s x t ho base e i 1 ht hi v n xs hs hown hx (h v w ?_ (World.grownBy.refl _ _))
    simpa using hown
  | some ad =>
    exact wpList_append_own w hgd s x t ho base e i z 1 bytes ht hi hz hsize hby hzs (by decide) v n xs hs hown ad l.length cap (l.map f) hx (by simp) (hsl.news ad rfl) h1 h63 hbytes hbase (fun v' w' a1 a2 _ => h v' w' a1 a2)

theorem own_shape {w : World} {base : Nat} {e : TypeId} {size : Nat} {v : Value} {n : Nat} {xs : List Value} (h : w.ownsRow base e size v n xs) (hn : 0 < n) :
    ∃ g cap, v = .slice (some ⟨g, 0, none⟩) n cap ∧ base ≤ g ∧ g < w.heap.size := by
  obtain ⟨_, ⟨_, h0⟩ | ⟨g, cap, cur, hv, hb, hh, _⟩⟩ := h
  · omega
  · refine ⟨g, cap, hv, hb, ?_⟩
    rcases Nat.lt_or_ge g w.heap.size with h | h
    · exact h
    · rw [Array.getElem?_eq_none h] at hh; cases hh

theorem own_row {w : World} {base : Nat} {e : TypeId} {size : Nat} {v : Value} {n : Nat} {xs : List Value} (h : w.ownsRow base e size v n xs) : ∀ k, v.ownBlock = some k → base ≤ k := fun k hk => (h.lt k hk).1
end Go.Proofs.YtoodbdjmbicaeaaGreatDoor
end
section
namespace Go.Proofs.YtoodbdjmbicaeaaGreatDoor
open Go.RowKit

/-- What the walk is told of a slice of integers that came in. -/
def IsRow (k : IntKind) (w : World) (a : Option Addr) (len cap : Nat) (zs : List Int) : Prop :=
  (a = none ∧ len = 0 ∧ cap = 0 ∧ zs = []) ∨
  ∃ x, a = some x ∧ len ≤ cap ∧ cap ≤ maxLen ∧ zs.length = cap ∧ (∀ i, i < zs.length → w.cell? (x.add i) = some (.int k (zs.getD i 0))) ∧ ∀ n ∈ zs, (Lit.int k n).wf = true

theorem of_wf8 {z : Int} (h : (Lit.int .u8 z).wf = true) : W8 (UInt8.ofNat z.toNat) = z := by
  have h1 : 0 ≤ z ∧ z ≤ 255 := by
    have := h; simp [Lit.wf, IntKind.min, IntKind.max, IntKind.signed, IntKind.bits] at this; omega
  unfold W8
  rw [UInt8.toNat_ofNat']
  omega
theorem of_wf32 {z : Int} (h : (Lit.int .u32 z).wf = true) : ∃ s : BitVec 32, z = W32 s := by
  have h1 : 0 ≤ z ∧ z ≤ 4294967295 := by
    have := h; simp [Lit.wf, IntKind.min, IntKind.max, IntKind.signed, IntKind.bits] at this; omega
  refine ⟨BitVec.ofNat 32 z.toNat, ?_⟩
  unfold W32
  rw [BitVec.toNat_ofNat]
  omega

theorem IsRow.sl {w : World} {a : Option Addr} {len cap : Nat} {zs : List Int} (h : IsRow .u8 w a len cap zs) (hlen : len ≤ 140737488355328) :
    ∃ l : List UInt8, l.length = len ∧ SlC 0 w.heap.size f8 w a cap l := by
  rcases h with ⟨rfl, rfl, rfl, rfl⟩ | ⟨x, rfl, hlc, hm, hz, hcell, hwf⟩
  · exact ⟨[], rfl, by simp, fun _ => rfl, fun h => absurd rfl h, by simp⟩
  · refine ⟨(zs.take len).map (fun z => UInt8.ofNat z.toNat), by simp; omega, by simp; omega, (fun h => by cases h), fun hne => ?_, by simp; omega⟩
    have h0 : 0 < zs.length := by
      rcases Nat.eq_zero_or_pos zs.length with h | h
      · rw [List.length_eq_zero_iff] at h; subst h; simp at hne
      · exact h
    obtain ⟨b, off, rfl, hc⟩ := ints_at hcell h0
    refine ⟨b, off, rfl, Nat.zero_le _, block_lt_of_cell (hc 0 h0), fun j hj => ?_⟩
    have hj' : j < zs.length := by simp at hj; omega
    rw [hc j hj']
    have e : zs.getD j 0 = zs[j] := by simp [List.getD, hj']
    rw [e]
    simp only [List.getElem_map, List.getElem_take, f8]
    rw [of_wf8 (hwf _ (List.getElem_mem hj'))]
end Go.Proofs.YtoodbdjmbicaeaaGreatDoor
end
