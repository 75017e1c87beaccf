import Derived.WalkKit
import Derived.WalkSpells
import Derived.WalkLawsBesides
import Derived.Laws.BitsAllLaws
import Derived.Laws.Rows
import Derived.Laws.Tables
import Derived.Laws.CopyRow
import Derived.Lib.Hide
import Derived.Laws.AppendOwnNone
import Derived.Laws.AppendOwn
import Derived.Deep.AppendLies
import Derived.Deep.DeepAppendRoom
import Derived.Laws.OwnMore
import Derived.Test.YtepjpdhmjchakaaGreatDoorChecked
import Derived.Deep.QuietTactic
import Derived.BigQuiet
/- Words of 32 bits and bytes as the walk's integers, behind names that its simp does not open. No condition. -/
namespace Go.Proofs.YtepjpdhmjchakaaGreatDoor
open Go.RowKit

/-- A word of 32 bits as an integer. -/
def W32 (x : BitVec 32) : Int := x.toNat
/-- A byte as an integer. -/
def W8 (x : UInt8) : Int := x.toNat

theorem W32_def (x : BitVec 32) : W32 x = (x.toNat : Int) := rfl
theorem W8_def (x : UInt8) : W8 x = (x.toNat : Int) := rfl
theorem W32_lt (x : BitVec 32) : 0 ≤ W32 x ∧ W32 x < 4294967296 := by have := x.isLt; unfold W32; omega
theorem W8_lt (x : UInt8) : 0 ≤ W8 x ∧ W8 x < 256 := by have := x.toNat_lt; unfold W8; omega
theorem W32_inj {x y : BitVec 32} (h : W32 x = W32 y) : x = y := by unfold W32 at h; exact BitVec.eq_of_toNat_eq (by omega)
theorem W8_inj {x y : UInt8} (h : W8 x = W8 y) : x = y := by unfold W8 at h; exact UInt8.toNat_inj.1 (by omega)
theorem W32_wf (x : BitVec 32) : (Lit.int .u32 (W32 x)).wf = true := by have := W32_lt x; exact WalkArith.wf_u32 (by omega)
theorem W8_wf (x : UInt8) : (Lit.int .u8 (W8 x)).wf = true := by have := W8_lt x; exact WalkArith.wf_u8 (by omega)

theorem W32_ofInt (x : BitVec 32) : BitVec.ofInt 32 (W32 x) = x := by unfold W32; rw [BitVec.ofInt_natCast, BitVec.ofNat_toNat, BitVec.setWidth_eq]
theorem W8_ofInt32 (x : UInt8) : BitVec.ofInt 32 (W8 x) = x.toBitVec.setWidth 32 := by
  unfold W8; rw [BitVec.ofInt_natCast]; apply BitVec.eq_of_toNat_eq; simp
theorem lit_ofInt32 (n : Nat) : BitVec.ofInt 32 (@OfNat.ofNat Int n _) = BitVec.ofNat 32 n := BitVec.ofInt_natCast 32 n
theorem wrap_toNat32 (x : BitVec 32) : IntKind.u32.wrap (x.toNat : Int) = W32 x := by
  have := x.isLt; unfold W32; rw [IntKind.wrap_u32']; omega

theorem W32_xor (x y : BitVec 32) : bits .xor .u32 (W32 x) (W32 y) = W32 (x ^^^ y) := by
  show IntKind.u32.wrap ((BitVec.ofInt 32 (W32 x) ^^^ BitVec.ofInt 32 (W32 y)).toNat : Int) = _
  rw [W32_ofInt, W32_ofInt, wrap_toNat32]
theorem W32_and (x y : BitVec 32) : bits .and .u32 (W32 x) (W32 y) = W32 (x &&& y) := by
  show IntKind.u32.wrap ((BitVec.ofInt 32 (W32 x) &&& BitVec.ofInt 32 (W32 y)).toNat : Int) = _
  rw [W32_ofInt, W32_ofInt, wrap_toNat32]
theorem W32_or (x y : BitVec 32) : bits .or .u32 (W32 x) (W32 y) = W32 (x ||| y) := by
  show IntKind.u32.wrap ((BitVec.ofInt 32 (W32 x) ||| BitVec.ofInt 32 (W32 y)).toNat : Int) = _
  rw [W32_ofInt, W32_ofInt, wrap_toNat32]
theorem W32_xor8 (x : BitVec 32) (y : UInt8) : bits .xor .u32 (W32 x) (W8 y) = W32 (x ^^^ y.toBitVec.setWidth 32) := by
  show IntKind.u32.wrap ((BitVec.ofInt 32 (W32 x) ^^^ BitVec.ofInt 32 (W8 y)).toNat : Int) = _
  rw [W32_ofInt, W8_ofInt32, wrap_toNat32]
theorem W32_xor_lit (x : BitVec 32) (n : Nat) : bits .xor .u32 (W32 x) (no_index (@OfNat.ofNat Int n _)) = W32 (x ^^^ BitVec.ofNat 32 n) := by
  show IntKind.u32.wrap ((BitVec.ofInt 32 (W32 x) ^^^ BitVec.ofInt 32 (@OfNat.ofNat Int n _)).toNat : Int) = _
  rw [W32_ofInt, lit_ofInt32, wrap_toNat32]
theorem W32_and_lit (x : BitVec 32) (n : Nat) : bits .and .u32 (W32 x) (no_index (@OfNat.ofNat Int n _)) = W32 (x &&& BitVec.ofNat 32 n) := by
  show IntKind.u32.wrap ((BitVec.ofInt 32 (W32 x) &&& BitVec.ofInt 32 (@OfNat.ofNat Int n _)).toNat : Int) = _
  rw [W32_ofInt, lit_ofInt32, wrap_toNat32]
theorem W32_not (x : BitVec 32) : bits .xor .u32 IntKind.u32.max (W32 x) = W32 (~~~x) := by
  rw [show IntKind.u32.max = W32 (BitVec.allOnes 32) from by decide, W32_xor, BitVec.allOnes_xor]
theorem W32_shr (x : BitVec 32) (yk : IntKind) (n : Nat) (h : n ≤ 32) : Op.shift .shr .u32 (W32 x) yk (no_index (@OfNat.ofNat Int n _)) = pure (.int .u32 (W32 (x >>> n))) := by
  have e : (@OfNat.ofNat Int n _ : Int) = (n : Int) := rfl
  rw [shift_shr .u32 yk _ _ (by rw [e]; omega) (by rw [e]; simp [IntKind.bits]; omega), e]
  congr 2
  unfold W32
  rw [BitVec.toNat_ushiftRight, Nat.shiftRight_eq_div_pow, Int.toNat_natCast]
  rw [Int.natCast_ediv, Int.natCast_pow]; rfl
theorem W8_ofInt (x : UInt8) : BitVec.ofInt 8 (W8 x) = x.toBitVec := by unfold W8; rw [BitVec.ofInt_natCast]; apply BitVec.eq_of_toNat_eq; simp
theorem W8_xor (x y : UInt8) : bits .xor .u8 (W8 x) (W8 y) = W8 (x ^^^ y) := by
  show IntKind.u8.wrap ((BitVec.ofInt 8 (W8 x) ^^^ BitVec.ofInt 8 (W8 y)).toNat : Int) = _
  rw [W8_ofInt, W8_ofInt, IntKind.wrap_u8', ← UInt8.toBitVec_xor]
  have := (x ^^^ y).toNat_lt
  show (((x ^^^ y).toNat : Int) % 256) = ((x ^^^ y).toNat : Int)
  omega
attribute [go_sem] W8_xor
attribute [go_sem] W32_xor W32_and W32_or W32_xor8 W32_xor_lit W32_and_lit W32_not
attribute [go_sem high] W32_shr
end Go.Proofs.YtepjpdhmjchakaaGreatDoor

/- Slices that are read: which cells hold their elements; how that is carried from world to world. No condition. -/
namespace Go.Proofs.YtepjpdhmjchakaaGreatDoor
open Go.RowKit

/-- From block lo on, below block hi, the two worlds hold the same. -/
def Same (lo hi : Nat) (w w' : World) : Prop := ∀ k, lo ≤ k → k < hi → w'.heap[k]? = w.heap[k]?

theorem Same.refl (lo hi : Nat) (w : World) : Same lo hi w w := fun _ _ _ => rfl
theorem Same.trans {lo hi : Nat} {a b c : World} (h : Same lo hi a b) (k : Same lo hi b c) : Same lo hi a c := fun i h1 h2 => (k i h1 h2).trans (h i h1 h2)
theorem Same.mono {lo hi lo' hi' : Nat} {w w' : World} (h : Same lo hi w w') (h1 : lo ≤ lo') (h2 : hi' ≤ hi) : Same lo' hi' w w' := fun k a b => h k (by omega) (by omega)
theorem Same.ofBelow {B : Nat} {w w' : World} (h : Below B w w') (lo hi : Nat) (hh : hi ≤ B) : Same lo hi w w' := fun k _ b => h.block k (by omega)

/-- What a slice of the elements l leads to: each is the one cell that f makes of it; its block lies from lo on, below hi. -/
structure SlC {α : Type} (lo hi : Nat) (f : α → Value) (w : World) (ao : Option Addr) (cap : Nat) (l : List α) : Prop where
  len : l.length ≤ 140737488355328
  nn : ao = none → cap = 0
  cells : l ≠ [] → ∃ b off, ao = some ⟨b, off, none⟩ ∧ lo ≤ b ∧ b < hi ∧ ∀ j (h : j < l.length), w.cell? ⟨b, off + j, none⟩ = some (f l[j])
  le : l.length ≤ cap

/-- The slice v has the elements l. -/
def Sl {α : Type} (lo hi : Nat) (f : α → Value) (w : World) (v : Value) (l : List α) : Prop :=
  ∃ ao cap, v = .slice ao l.length cap ∧ SlC lo hi f w ao cap l

/-- A byte's cell. -/
def f8 (x : UInt8) : Value := .int .u8 (W8 x)

section
variable {α : Type} {lo hi lo' hi' B : Nat} {f : α → Value} {w w' : World} {v : Value} {l : List α} {ao : Option Addr} {cap : Nat}
theorem SlC.same (h : SlC lo hi f w ao cap l) (hs : Same lo hi w w') : SlC lo hi f w' ao cap l := by
  obtain ⟨hl, hn, hc, hle⟩ := h
  refine ⟨hl, hn, fun hne => ?_, hle⟩
  obtain ⟨b, off, ha, h1, h2, hcell⟩ := hc hne
  exact ⟨b, off, ha, h1, h2, fun j hj => (World.cell?_of_block (w := w) (hs b h1 h2)).trans (hcell j hj)⟩
theorem SlC.mono (h : SlC lo hi f w ao cap l) (h1 : lo' ≤ lo) (h2 : hi ≤ hi') : SlC lo' hi' f w ao cap l := by
  obtain ⟨hl, hn, hc, hle⟩ := h
  refine ⟨hl, hn, fun hne => ?_, hle⟩
  obtain ⟨b, off, ha, h3, h4, hcell⟩ := hc hne
  exact ⟨b, off, ha, by omega, by omega, hcell⟩
theorem SlC.below (h : SlC lo hi f w ao cap l) (hb : Below B w w') (hh : hi ≤ B) : SlC lo hi f w' ao cap l :=
  h.same (Same.ofBelow hb _ _ hh)
theorem SlC.none (h : SlC lo hi f w ao cap l) (hn : ao = none) : l.length = 0 ∧ cap = 0 := by
  refine ⟨?_, h.nn hn⟩
  cases l with
  | nil => rfl
  | cons a l => obtain ⟨b, off, ha, _⟩ := h.cells (by simp); rw [hn] at ha; cases ha
/-- The cells, as the laws on append ask for them. -/
theorem SlC.news (h : SlC lo hi f w ao cap l) : ∀ ad, ao = some ad → ∀ j u, (l.map f)[j]? = some u → w.cell? (ad.add j) = some u := by
  intro ad had j u hu
  have hj : j < l.length := by
    have := (List.getElem?_eq_some_iff.1 hu).1
    simpa using this
  obtain ⟨b, off, ha, _, _, hcell⟩ := h.cells (by intro e; subst e; simp at hj)
  rw [had] at ha
  injection ha with ha
  subst ha
  rw [Addr.add_lit, hcell j hj]
  rw [← hu, List.getElem?_map, List.getElem?_eq_getElem hj]; rfl
theorem Sl.same (h : Sl lo hi f w v l) (hs : Same lo hi w w') : Sl lo hi f w' v l := by
  obtain ⟨ao, cap, hv, h⟩ := h; exact ⟨ao, cap, hv, h.same hs⟩
theorem Sl.mono (h : Sl lo hi f w v l) (h1 : lo' ≤ lo) (h2 : hi ≤ hi') : Sl lo' hi' f w v l := by
  obtain ⟨ao, cap, hv, h⟩ := h; exact ⟨ao, cap, hv, h.mono h1 h2⟩
theorem Sl.below (h : Sl lo hi f w v l) (hb : Below B w w') (hh : hi ≤ B) : Sl lo hi f w' v l :=
  h.same (Same.ofBelow hb _ _ hh)
theorem Sl.len (h : Sl lo hi f w v l) : l.length ≤ 140737488355328 := by
  obtain ⟨_, _, _, h⟩ := h; exact h.len
end
/-- The cells of a block that has just been laid. -/
theorem news_alloc (w : World) (cs : List Value) (t : TypeId) : ∀ j u, cs[j]? = some u → (w.alloc (.cells cs.toArray t)).cell? ((⟨w.heap.size, 0, none⟩ : Addr).add j) = some u := by
  intro j u hu
  rw [Addr.add_lit, cell_of_row _ _ _ _ _ _ (heap_alloc_new w _), Nat.zero_add]
  simpa using hu
theorem f8_one (l : List UInt8) : ∀ u ∈ l.map f8, u.oneCell' = true := by
  intro u hu
  obtain ⟨_, _, rfl⟩ := List.mem_map.1 hu
  rfl
theorem Sl.nil {α : Type} (lo hi : Nat) (f : α → Value) (w : World) : Sl lo hi f w (.slice none 0 0) ([] : List α) := ⟨none, 0, rfl, by simp, fun _ => rfl, fun h => absurd rfl h, by simp⟩

/-- A row of the call's own that is full: its block's very cells. -/
theorem own_full {w : World} {base : Nat} {e : TypeId} {g n : Nat} {xs : List Value} (h : w.ownsRow base e 1 (.slice (some ⟨g, 0, none⟩) n n) n xs) :
    base ≤ g ∧ w.heap[g]? = some (.cells xs.toArray e (0, 0)) := by
  obtain ⟨hl, h | ⟨g', cap, cur, hv, hb, hh, h1, h2, h3, h4⟩⟩ := h
  · simp at h
  · simp only [Value.slice.injEq, Option.some.injEq, Addr.mk.injEq] at hv
    obtain ⟨⟨rfl, -⟩, -, rfl⟩ := hv
    refine ⟨hb, ?_⟩
    rw [hh, ← h4, Nat.mul_one, List.take_of_length_le (by simp [h3])]
/-- Of a row that the call owns its slice has the elements. -/
theorem Sl.owns {α : Type} {w : World} {base : Nat} {e : TypeId} {f : α → Value} {v : Value} {l : List α} (h : w.ownsRow base e 1 v l.length (l.map f)) (hl : l.length ≤ 140737488355328) :
    Sl base w.heap.size f w v l := by
  obtain ⟨_, ⟨rfl, hn⟩ | ⟨g, cap, cur, rfl, hb, hh, h1, h2, h3, h4⟩⟩ := h
  · exact ⟨none, 0, by rw [hn], hl, fun _ => rfl, fun hne => absurd (List.eq_nil_of_length_eq_zero hn) hne, by omega⟩
  · refine ⟨_, cap, rfl, hl, (fun h => by cases h), fun _ => ⟨g, 0, rfl, hb, ?_, fun j hj => ?_⟩, h1⟩
    · rcases Nat.lt_or_ge g w.heap.size with h | h
      · exact h
      · rw [Array.getElem?_eq_none h] at hh; cases hh
    · rw [cell_of_row _ _ _ _ _ _ hh, Nat.zero_add, ← Array.getElem?_toList]
      have h5 := congrArg (fun (t : List Value) => t[j]?) h4
      simp only [List.getElem?_take, Nat.mul_one, hj, if_true, List.getElem?_map, List.getElem?_eq_getElem hj, Option.map_some] at h5
      exact h5
end Go.Proofs.YtepjpdhmjchakaaGreatDoor

/- append of a slice that is read, whatever its shape, to one of the call's own. -/
namespace Go.Proofs.YtepjpdhmjchakaaGreatDoor
open Go.RowKit

theorem wpList_append_sl {P : Program} {w : World} {ops : Array Oper} {rest : List Oper} {o : Oper} {a : Act} {Q : Exit → Act → World → Prop} (hgd : o.guard = none) (s x : Operand) (t : TypeId)
    (ho : o.op = .call { callee := .builtin .append, args := #[s, x], argTypes := #[t, t] })
    (base : Nat) (e : TypeId) (i : TypeInfo) (z : Value) (bytes : Nat) (ht : P.underlying t = some (.slice e)) (hi : P.info? e = some i) (hz : i.zero = some z)
    (hsize : i.size = 1) (hby : i.bytes = bytes) (hzs : z.cells.size = 1)
    (v : Value) (n : Nat) (xs : List Value) (hs : a.eval s = v) (hown : w.ownsRow base e 1 v n xs)
    {α : Type} {lo hi' : Nat} {f : α → Value} (ao : Option Addr) (cap : Nat) (l : List α) (hx : a.eval x = .slice ao l.length cap) (hsl : SlC lo hi' f w ao cap l) (h1 : ∀ u ∈ l.map f, u.oneCell' = true)
    (h63 : n + l.length ≤ maxLen) (hbytes : (n + l.length) * bytes ≤ 140737488355328) (hbase : base ≤ w.heap.size)
    (h : ∀ v' w', w'.ownsRow base e 1 v' (n + l.length) (xs ++ l.map f) → w.grownBy w' v.ownBlock → wpList P ops Q rest (a.put o.dst v') w') : wpList P ops Q (o :: rest) a w := by
  cases ao with
  | none =>
    obtain ⟨h0, hc⟩ := hsl.none rfl
    have hl : l = [] := List.eq_nil_of_length_eq_zero h0
    subst hl
    subst hc
    refine wpList_append_own_none hgd s x t ho base e i 1 ht hi v n xs hs hown hx (h v w ?_ (World.grownBy.refl _ _))
    simpa using hown
  | some ad =>
    exact wpList_append_own w hgd s x t ho base e i z 1 bytes ht hi hz hsize hby hzs (by decide) v n xs hs hown ad l.length cap (l.map f) hx (by simp) (hsl.news ad rfl) h1 h63 hbytes hbase (fun v' w' a1 a2 _ => h v' w' a1 a2)

theorem own_shape {w : World} {base : Nat} {e : TypeId} {size : Nat} {v : Value} {n : Nat} {xs : List Value} (h : w.ownsRow base e size v n xs) (hn : 0 < n) :
    ∃ g cap, v = .slice (some ⟨g, 0, none⟩) n cap ∧ base ≤ g ∧ g < w.heap.size := by
  obtain ⟨_, ⟨_, h0⟩ | ⟨g, cap, cur, hv, hb, hh, _⟩⟩ := h
  · omega
  · refine ⟨g, cap, hv, hb, ?_⟩
    rcases Nat.lt_or_ge g w.heap.size with h | h
    · exact h
    · rw [Array.getElem?_eq_none h] at hh; cases hh

theorem own_row {w : World} {base : Nat} {e : TypeId} {size : Nat} {v : Value} {n : Nat} {xs : List Value} (h : w.ownsRow base e size v n xs) : ∀ k, v.ownBlock = some k → base ≤ k := fun k hk => (h.lt k hk).1
end Go.Proofs.YtepjpdhmjchakaaGreatDoor

/- append that keeps the old view of the row. -/
namespace Go.Proofs.YtepjpdhmjchakaaGreatDoor
open Go.RowKit

/-- The new row is the old one with room, or a new block with the old one as it was. -/
def Stay (w w' : World) (v : Value) (n g cap' : Nat) : Prop :=
  (v = .slice (some ⟨g, 0, none⟩) n cap' ∧ w.grownBy w' (some g)) ∨ (g = w.heap.size ∧ w.grownBy w' none)

theorem run_append_stay {P : Program} (w : World) (t ty : TypeId) (base : Nat) (e : TypeId) (i : TypeInfo) (z : Value) (bytes : Nat) (ht : P.underlying t = some (.slice e)) (hi : P.info? e = some i) (hz : i.zero = some z)
    (hsize : i.size = 1) (hby : i.bytes = bytes) (hzs : z.cells.size = 1)
    (v : Value) (n : Nat) (xs : List Value) (hown : w.ownsRow base e 1 v n xs)
    (ad : Addr) (c : Nat) (u : Value) (hnews : w.cell? ad = some u) (h1 : u.oneCell' = true) (had : ∀ j u', [u][j]? = some u' → w.cell? (ad.add j) = some u')
    (h63 : n + 1 ≤ maxLen) (hbytes : (n + 1) * bytes ≤ 140737488355328) (hbase : base ≤ w.heap.size) :
    ∃ g cap w', (Builtin.append_ #[t, t] ty #[v, .slice (some ad) 1 c]).run P w = .ok (.slice (some ⟨g, 0, none⟩) (n + 1) cap) w' ∧
      w'.ownsRow base e 1 (.slice (some ⟨g, 0, none⟩) (n + 1) cap) (n + 1) (xs ++ [u]) ∧ Stay w w' v n g cap ∧ g < w'.heap.size := by
  have h1' : ∀ u' ∈ [u], u'.oneCell' = true := by intro u' h; simp at h; subst h; exact h1
  obtain ⟨g, cap', w', hr, h2, h3, h4, h5⟩ := run_append_lies (P := P) w t ty base e i z 1 bytes ht hi hz hsize hby hzs (by decide) v n xs hown ad 1 c [u] rfl had h1' (by decide) h63 hbytes hbase _ rfl
  rcases hown.2 with ⟨rfl, rfl⟩ | ⟨g0, cap, cur, rfl, hbg, hg, hnc, hcm, hcs, htake⟩
  · refine ⟨g, cap', w', hr, h2, .inr ⟨?_, h3⟩, h5⟩
    rcases h4 with h4 | h4
    · cases h4
    · exact h4
  · by_cases hroom : n + 1 ≤ cap
    · obtain ⟨w2, hr2, h22, h23⟩ := run_append_own_spare (P := P) w base t ty e i 1 ht hi hsize g0 n cap xs hown ad 1 c [u] rfl had h1' hroom
      rw [hr] at hr2
      simp only [Result.ok.injEq, Value.slice.injEq, Option.some.injEq, Addr.mk.injEq, and_true, true_and] at hr2
      obtain ⟨⟨rfl, rfl⟩, rfl⟩ := hr2
      exact ⟨_, _, _, hr, h2, .inl ⟨rfl, h23⟩, h5⟩
    · have holds : ∀ j u, xs[j]? = some u → w.cell? ((⟨g0, 0, none⟩ : Addr).add j) = some u := hown.cells (g := g0) rfl
      subst hby
      have hsm : n + 1 ≤ 9223372036854775807 := by unfold maxLen at h63; omega
      have hr2 := run_append_grow (P := P) w t ty e i z ht hi hz ⟨g0, 0, none⟩ n cap xs (by rw [hsize]; exact hown.1) holds ad 1 c [u] (by rw [hsize]; rfl) had (by omega) (by omega) (growslice_fits (by omega) hbytes)
      rw [hr] at hr2
      simp only [Result.ok.injEq, Value.slice.injEq, Option.some.injEq, Addr.mk.injEq, and_true, true_and] at hr2
      obtain ⟨⟨hgg, -⟩, hw⟩ := hr2
      refine ⟨g, cap', w', hr, h2, .inr ⟨hgg, ?_⟩, h5⟩
      rw [hw]
      exact ⟨rfl, rfl, rfl, by simp, fun k hk _ => Below.heap_alloc w.drew _ k hk⟩

theorem wpList_append_stay {P : Program} (w : World) {ops : Array Oper} {rest : List Oper} {o : Oper} {a : Act} {Q : Exit → Act → World → Prop} (hgd : o.guard = none) (s x : Operand) (t : TypeId)
    (ho : o.op = .call { callee := .builtin .append, args := #[s, x], argTypes := #[t, t] })
    (base : Nat) (e : TypeId) (i : TypeInfo) (z : Value) (bytes : Nat) (ht : P.underlying t = some (.slice e)) (hi : P.info? e = some i) (hz : i.zero = some z)
    (hsize : i.size = 1) (hby : i.bytes = bytes) (hzs : z.cells.size = 1)
    (v : Value) (n : Nat) (xs : List Value) (hs : a.eval s = v) (hown : w.ownsRow base e 1 v n xs)
    (ad : Addr) (c : Nat) (u : Value) (hx : a.eval x = .slice (some ad) 1 c) (had : ∀ j u', [u][j]? = some u' → w.cell? (ad.add j) = some u') (h1 : u.oneCell' = true)
    (h63 : n + 1 ≤ maxLen) (hbytes : (n + 1) * bytes ≤ 140737488355328) (hbase : base ≤ w.heap.size)
    (h : ∀ g cap w', w'.ownsRow base e 1 (.slice (some ⟨g, 0, none⟩) (n + 1) cap) (n + 1) (xs ++ [u]) → Stay w w' v n g cap → g < w'.heap.size → wpList P ops Q rest (a.put o.dst (.slice (some ⟨g, 0, none⟩) (n + 1) cap)) w') : wpList P ops Q (o :: rest) a w := by
  refine wpList_plain hgd fun K hK => ?_
  have h0 : w.cell? ad = some u := by
    have := had 0 u rfl
    cases ad with
    | mk b o sp => cases sp <;> simpa [Addr.add] using this
  obtain ⟨g, cap, w', hr, h2, h3, h4⟩ := run_append_stay (P := P) w t o.type base e i z bytes ht hi hz hsize hby hzs v n xs hown ad c u h0 h1 had h63 hbytes hbase
  unfold Oper.wp execOp
  simp only [ho, resolve, invoke, builtin, Sem.run_bind, Sem.run_pure, Result.andThen_ok, List.map_toArray, List.map_cons, List.map_nil, hs, hx, hr]
  exact hK _ _ (h g cap w' h2 h3 h4)

/-- The first elements of a row, as a row. -/
theorem own_prefix {w : World} {base : Nat} {e : TypeId} {g cap : Nat} {n m : Nat} {ys : List Value} (h : w.ownsRow base e 1 (.slice (some ⟨g, 0, none⟩) (n + m) cap) (n + m) ys) : w.ownsRow base e 1 (.slice (some ⟨g, 0, none⟩) n cap) n (ys.take n) := by
  obtain ⟨hl, h | ⟨g', cap', cur, hv, hb, hh, h1, h2, h3, h4⟩⟩ := h
  · simp at h
  · simp only [Value.slice.injEq, Option.some.injEq, Addr.mk.injEq, and_true, true_and] at hv
    obtain ⟨rfl, rfl⟩ := hv
    refine ⟨by simp at hl ⊢; omega, .inr ⟨g, cap, cur, rfl, hb, hh, by omega, h2, h3, ?_⟩⟩
    rw [← h4, List.take_take]
    congr 1
    omega
/-- Two views of one block have one capacity. -/
theorem own_cap {w : World} {base base' : Nat} {e : TypeId} {g cap cap' n n' : Nat} {xs ys : List Value} (h : w.ownsRow base e 1 (.slice (some ⟨g, 0, none⟩) n cap) n xs) (k : w.ownsRow base' e 1 (.slice (some ⟨g, 0, none⟩) n' cap') n' ys) : cap = cap' := by
  obtain ⟨_, h | ⟨g1, c1, cur1, hv, _, hh, _, _, h3, _⟩⟩ := h
  · simp at h
  · obtain ⟨_, k | ⟨g2, c2, cur2, kv, _, kk, _, _, k3, _⟩⟩ := k
    · simp at k
    · simp only [Value.slice.injEq, Option.some.injEq, Addr.mk.injEq, and_true, true_and] at hv kv
      obtain ⟨rfl, rfl⟩ := hv
      obtain ⟨rfl, rfl⟩ := kv
      rw [hh] at kk
      injection kk with kk
      injection kk with kk
      subst kk
      omega
/-- Rows of two element types lie apart. -/
theorem own_apart {w : World} {base base' : Nat} {e e' : TypeId} {s s' : Nat} {v v' : Value} {n n' : Nat} {xs ys : List Value} (h : w.ownsRow base e s v n xs) (k : w.ownsRow base' e' s' v' n' ys) (hne : e ≠ e') : ∀ b, v.ownBlock = some b → v'.ownBlock ≠ some b := by
  intro b hb hb'
  obtain ⟨_, ⟨rfl, _⟩ | ⟨g1, c1, cur1, rfl, _, hh, _⟩⟩ := h
  · cases hb
  · obtain ⟨_, ⟨rfl, _⟩ | ⟨g2, c2, cur2, rfl, _, kk, _⟩⟩ := k
    · cases hb'
    · injection hb with hb
      injection hb' with hb'
      have e1 : g1 = b := hb
      have e2 : g2 = b := hb'
      rw [e1] at hh
      rw [e2, hh] at kk
      injection kk with kk
      injection kk with _ kk
      exact hne kk
end Go.Proofs.YtepjpdhmjchakaaGreatDoor

/- SameBytes. -/
namespace Go.Proofs.YtepjpdhmjchakaaGreatDoor
open Go.RowKit

def sameB (a b : List UInt8) : Bool := decide (a = b)

theorem same_any (lo hi lo' hi' : Nat) (w : World) (v v' : Value) (l l' : List UInt8) (hv : Sl lo hi f8 w v l) (hv' : Sl lo' hi' f8 w v' l') :
    Calls Tryz.prog 33 #[v, v'] w fun e w' => e = .returned (.bool (sameB l l')) ∧ ∃ n, w' = w.drewN n := by
  obtain ⟨ao, cap, rfl, hl, _, hc⟩ := hv
  obtain ⟨ao', cap', rfl, hl', _, hc'⟩ := hv'
  by_cases hlen : l.length = l'.length
  · have hb : ((l.length : Int) != (l'.length : Int)) = false := by rw [hlen]; simp
    have HL := Lib.hid hlen
    clear hlen
    go_enter Tryz.func33, Tryz.ntmps33
    go_wp2
    go_loopw [5] (fun i wr => ∃ k n : Nat, k ≤ l.length ∧ i = .int .i64 k ∧ l.take k = l'.take k ∧ wr = w.drewN n) (fun i _ => l.length - (intOf i).toNat)
    case atStart => exact ⟨0, 0, by omega, rfl, rfl, rfl⟩
    case round =>
      obtain ⟨k, n, hk, rfl, ht, rfl⟩ := hrel
      have HT := Lib.hid ht
      clear ht
      by_cases hlt : k < l.length
      · obtain ⟨b, off, rfl, _, _, hcell⟩ := hc (by intro e; subst e; simp at hlt)
        have hlt' : k < l'.length := by have := HL.out; omega
        obtain ⟨b', off', rfl, _, _, hcell'⟩ := hc' (by intro e; subst e; simp at hlt')
        have hc1 : w.cell? ⟨b, off + k, none⟩ = some (.int .u8 (W8 l[k])) := hcell k hlt
        have hc2 : w.cell? ⟨b', off' + k, none⟩ = some (.int .u8 (W8 l'[k])) := hcell' k hlt'
        have i1 : (0 : Int) ≤ (k : Int) ∧ (k : Int) < (l.length : Int) := by omega
        have i2 : (0 : Int) ≤ (k : Int) ∧ (k : Int) < (l'.length : Int) := by omega
        clear hcell hcell' hc hc'
        go_wp2
        go_quiet (fail)
        go_wp2
        · have hne : l[k] ≠ l'[k] := by
            intro e
            have h : (W8 l[k] != W8 l'[k]) = true := by assumption
            rw [e] at h; simp at h
          go_ret
          refine ⟨?_, n + nq, by rw [World.drewN_drewN]⟩
          have hs : sameB l l' = false := by
            unfold sameB; rw [decide_eq_false_iff_not]; intro e; subst e; exact hne rfl
          rw [hs]; rfl
        · have he : l[k] = l'[k] := by
            have h : (W8 l[k] != W8 l'[k]) = false := by assumption
            exact W8_inj (by simpa using h)
          go_roundw
          case rel =>
            exact ⟨k + 1, _, by omega, by go_num, by rw [List.take_succ_eq_append_getElem hlt, List.take_succ_eq_append_getElem hlt', HT.out, he], rfl⟩
          case measure => simp [intOf]; omega
      · have e : k = l.length := by omega
        subst e
        have e2 : l = l' := by
          have h1 := HT.out
          have h2 := HL.out
          rw [List.take_length, h2, List.take_length] at h1
          exact h1
        subst e2
        clear HT HL hb hc hc'
        go_wp2
        go_ret
        exact ⟨by rw [show sameB l l = true from by simp [sameB]]; rfl, _, rfl⟩
  · have hb : ((l.length : Int) != (l'.length : Int)) = true := by simp; omega
    go_enter Tryz.func33, Tryz.ntmps33
    go_wp2
    go_ret
    refine ⟨?_, 0, rfl⟩
    have hs : sameB l l' = false := by
      unfold sameB; rw [decide_eq_false_iff_not]; intro e; subst e; exact hlen rfl
    rw [hs]; rfl
end Go.Proofs.YtepjpdhmjchakaaGreatDoor

/- Bits, packed and read, in plain Lean. No condition, no program. -/
namespace Go.Proofs.YtepjpdhmjchakaaGreatDoor.Bt

/-- The bit j of some bytes, the highest of a byte first. -/
def mbit (l : List UInt8) (j : Nat) : Bool := (l.getD (j / 8) 0).toBitVec.getLsbD (7 - j % 8)
def unpack (l : List UInt8) : List Bool := (List.range (8 * l.length)).map (mbit l)

/-- The byte with one bit, from the top. -/
def top (r : Nat) : UInt8 := UInt8.ofNat (2 ^ (7 - r))
theorem top_get : ∀ r t : Fin 8, (top r.val).toBitVec.getLsbD (7 - t.val) = decide (t = r) := by decide +kernel

/-- A writer's bytes and bits: one more bit. -/
def put (s : List UInt8 × Nat) (b : Bool) : List UInt8 × Nat :=
  let l := if s.2 % 8 = 0 then s.1 ++ [0] else s.1
  (if b = true then l.set (s.2 / 8) (l.getD (s.2 / 8) 0 ||| top (s.2 % 8)) else l, s.2 + 1)
def packS (L : List Bool) : List UInt8 × Nat := L.foldl put ([], 0)
def pack (L : List Bool) : List UInt8 := (packS L).1

theorem packS_snd (L : List Bool) : (packS L).2 = L.length := by
  have h : ∀ (L : List Bool) (s : List UInt8 × Nat), (L.foldl put s).2 = s.2 + L.length := by
    intro L
    induction L with
    | nil => intro s; rfl
    | cons b L ih => intro s; rw [List.foldl_cons, ih]; simp [put]; omega
  rw [packS, h]; simp
theorem packS_snoc (L : List Bool) (b : Bool) : packS (L ++ [b]) = put (packS L) b := by simp [packS]
theorem pack_nil : pack [] = [] := rfl
theorem pack_snoc (L : List Bool) (b : Bool) : pack (L ++ [b]) =
    (let l := if L.length % 8 = 0 then pack L ++ [0] else pack L
     if b = true then l.set (L.length / 8) (l.getD (L.length / 8) 0 ||| top (L.length % 8)) else l) := by
  unfold pack; rw [packS_snoc, put, packS_snd]
theorem pack_len (L : List Bool) : (pack L).length = (L.length + 7) / 8 := by
  have h : ∀ n (L : List Bool), L.length = n → (pack L).length = (n + 7) / 8 := by
    intro n
    induction n with
    | zero => intro L hL; rw [List.length_eq_zero_iff] at hL; subst hL; rfl
    | succ n ih =>
      intro L hL
      have hne : L ≠ [] := by intro e; subst e; simp at hL
      obtain ⟨L', b, rfl⟩ : ∃ L' b, L = L' ++ [b] := ⟨L.dropLast, L.getLast hne, (List.dropLast_concat_getLast hne).symm⟩
      have hl : L'.length = n := by simpa using hL
      rw [pack_snoc]
      have ih' := ih L' hl
      have e : ((if L'.length % 8 = 0 then pack L' ++ [0] else pack L')).length = (n + 1 + 7) / 8 := by
        rw [hl]; split
        · rw [List.length_append, ih']; simp; omega
        · rw [ih']; omega
      dsimp only
      split
      · rw [List.length_set]; exact e
      · exact e
  exact h _ L rfl

theorem pack_bit (L : List Bool) (j : Nat) : mbit (pack L) j = L.getD j false := by
  have h : ∀ n (L : List Bool), L.length = n → ∀ j, mbit (pack L) j = L.getD j false := by
    intro n
    induction n with
    | zero => intro L hL j; rw [List.length_eq_zero_iff] at hL; subst hL; simp [pack_nil, mbit]
    | succ n ih =>
      intro L hL j
      have hne : L ≠ [] := by intro e; subst e; simp at hL
      obtain ⟨L', b, rfl⟩ : ∃ L' b, L = L' ++ [b] := ⟨L.dropLast, L.getLast hne, (List.dropLast_concat_getLast hne).symm⟩
      have hl : L'.length = n := by simpa using hL
      have hlen := pack_len L'
      rw [hl] at hlen
      -- the bytes with room
      have hroom : ∀ j, mbit (if L'.length % 8 = 0 then pack L' ++ [0] else pack L') j = L'.getD j false := by
        intro j
        rw [← ih L' hl j]
        split
        · unfold mbit
          by_cases h1 : j / 8 < (pack L').length
          · simp [List.getD, List.getElem?_append_left h1]
          · have e1 : (pack L').getD (j / 8) 0 = 0 := by simp [List.getD, h1]
            have e2 : (pack L' ++ [0]).getD (j / 8) 0 = 0 := by
              simp only [List.getD]
              rw [List.getElem?_append_right (by omega)]
              by_cases h2 : j / 8 - (pack L').length = 0
              · rw [h2]; rfl
              · rw [List.getElem?_eq_none (by simp; omega)]; rfl
            rw [e1, e2]
        · rfl
      have hrl : (if L'.length % 8 = 0 then pack L' ++ [0] else pack L').length = (n + 8) / 8 := by
        rw [hl]; split
        · rw [List.length_append, hlen]; simp; omega
        · rw [hlen]; omega
      rw [pack_snoc]
      dsimp only
      generalize hl0 : (if L'.length % 8 = 0 then pack L' ++ [0] else pack L') = l at *
      have hlast : (L' ++ [b]).getD j false = if j = n then b else L'.getD j false := by
        simp only [List.getD]
        by_cases hj : j < L'.length
        · rw [List.getElem?_append_left hj, if_neg (by omega)]
        · rw [List.getElem?_append_right (by omega)]
          by_cases e : j = n
          · subst e; rw [if_pos rfl, hl, Nat.sub_self]; rfl
          · rw [if_neg e, List.getElem?_eq_none (by simp; omega), List.getElem?_eq_none (by omega)]
      rw [hlast]
      have hn0 : L'.getD n false = false := by simp [List.getD, hl]
      split
      · rename_i hb
        subst hb
        rw [hl]
        unfold mbit
        by_cases hd : j / 8 = n / 8
        · have hlt : n / 8 < l.length := by omega
          have e : (l.set (n / 8) (l.getD (n / 8) 0 ||| top (n % 8))).getD (j / 8) 0 = l.getD (n / 8) 0 ||| top (n % 8) := by
            rw [hd]; simp [List.getD, hlt]
          rw [e, UInt8.toBitVec_or, BitVec.getLsbD_or]
          have ht := top_get ⟨n % 8, Nat.mod_lt _ (by omega)⟩ ⟨j % 8, Nat.mod_lt _ (by omega)⟩
          simp only [Fin.mk.injEq] at ht
          rw [ht]
          have hr := hroom j
          unfold mbit at hr
          rw [hd] at hr
          rw [hr]
          by_cases e2 : j % 8 = n % 8
          · have : j = n := by omega
            subst this; simp
          · have : j ≠ n := by intro e3; subst e3; exact e2 rfl
            simp [e2, this]
        · have hne : j ≠ n := by intro e3; subst e3; exact hd rfl
          have e : (l.set (n / 8) (l.getD (n / 8) 0 ||| top (n % 8))).getD (j / 8) 0 = l.getD (j / 8) 0 := by
            simp [List.getD, Ne.symm hd]
          rw [e, if_neg hne]
          exact hroom j
      · rename_i hb
        have hbf : b = false := by simpa using hb
        subst hbf
        rw [hroom]
        by_cases e : j = n
        · subst e; rw [if_pos rfl, hn0]
        · rw [if_neg e]
  exact h _ L rfl j

/-- Bytes are their bits. -/
theorem ext_bits (a b : List UInt8) (h : a.length = b.length) (hb : ∀ j, j < 8 * a.length → mbit a j = mbit b j) : a = b := by
  apply List.ext_getElem h
  intro i h1 h2
  apply UInt8.toBitVec_inj.1
  apply BitVec.eq_of_getLsbD_eq
  intro t ht
  have := hb (8 * i + (7 - t)) (by omega)
  unfold mbit at this
  have e1 : (8 * i + (7 - t)) / 8 = i := by omega
  have e2 : 7 - (8 * i + (7 - t)) % 8 = t := by omega
  rw [e1, e2] at this
  simpa [List.getD, h1, h2] using this

theorem unpack_len (l : List UInt8) : (unpack l).length = 8 * l.length := by simp [unpack]
theorem unpack_get (l : List UInt8) (j : Nat) (h : j < 8 * l.length) : (unpack l)[j]? = some (mbit l j) := by simp [unpack, h]
theorem pack_unpack (l : List UInt8) : pack (unpack l) = l := by
  apply ext_bits
  · rw [pack_len, unpack_len]; omega
  · intro j hj
    rw [pack_len, unpack_len] at hj
    rw [pack_bit, List.getD, unpack_get l j (by omega)]; rfl
/-- What is read of bytes that were packed: the bits, and noughts behind. -/
theorem unpack_pack (L : List Bool) : unpack (pack L) = L ++ List.replicate (8 * ((L.length + 7) / 8) - L.length) false := by
  apply List.ext_getElem?
  intro j
  by_cases hj : j < 8 * ((L.length + 7) / 8)
  · rw [unpack_get _ _ (by rw [pack_len]; exact hj), pack_bit]
    by_cases h1 : j < L.length
    · rw [List.getElem?_append_left h1]; simp [List.getD, h1]
    · rw [List.getElem?_append_right (by omega), List.getElem?_replicate, if_pos (by omega)]; simp [List.getD, h1]
  · rw [List.getElem?_eq_none (by rw [unpack_len, pack_len]; omega), List.getElem?_eq_none (by simp; omega)]

/-- The n lowest bits of v, the highest first. -/
def nb (v n : Nat) : List Bool := (List.range n).map fun i => v.testBit (n - 1 - i)
theorem nb_len (v n : Nat) : (nb v n).length = n := by simp [nb]
theorem nb_succ (v n : Nat) : nb v (n + 1) = v.testBit n :: nb v n := by
  unfold nb
  rw [List.range_succ_eq_map, List.map_cons, List.map_map]
  congr 1
  apply List.map_congr_left
  intro i hi
  have : i < n := List.mem_range.1 hi
  show v.testBit (n + 1 - 1 - (i + 1)) = _
  congr 1
  omega
theorem nb_mod (v n : Nat) : nb (v % 2 ^ n) n = nb v n := by
  unfold nb
  apply List.map_congr_left
  intro i hi
  have : i < n := List.mem_range.1 hi
  rw [Nat.testBit_mod_two_pow]
  simp; intro; omega

/-- The number of some bits. -/
def val (l : List Bool) : Nat := l.foldl (fun v b => 2 * v + b.toNat) 0
theorem val_snoc (l : List Bool) (b : Bool) : val (l ++ [b]) = 2 * val l + b.toNat := by simp [val]
theorem val_from (l : List Bool) (a : Nat) : l.foldl (fun v b => 2 * v + b.toNat) a = a * 2 ^ l.length + val l := by
  induction l generalizing a with
  | nil => simp [val]
  | cons b l ih =>
    unfold val
    rw [List.foldl_cons, List.foldl_cons, ih, ih (2 * 0 + b.toNat), List.length_cons, Nat.pow_succ]
    have : (2 * a + b.toNat) * 2 ^ l.length = a * (2 ^ l.length * 2) + b.toNat * 2 ^ l.length := by
      rw [Nat.add_mul, Nat.mul_comm 2 a, Nat.mul_assoc, Nat.mul_comm 2]
    simp only [this]; simp; omega
theorem val_cons (b : Bool) (l : List Bool) : val (b :: l) = b.toNat * 2 ^ l.length + val l := by
  have h := val_from l (2 * 0 + b.toNat)
  unfold val at *
  rw [List.foldl_cons, h]; simp
theorem val_lt (l : List Bool) : val l < 2 ^ l.length := by
  induction l with
  | nil => simp [val]
  | cons b l ih => rw [val_cons, List.length_cons, Nat.pow_succ]; cases b <;> simp <;> omega
theorem val_nb (v n : Nat) : val (nb v n) = v % 2 ^ n := by
  induction n with
  | zero => simp [nb, val, Nat.mod_one]
  | succ n ih =>
    rw [nb_succ, val_cons, nb_len, ih, Nat.mod_pow_succ, Nat.testBit_eq_decide_div_mod_eq]
    have h : v / 2 ^ n % 2 < 2 := Nat.mod_lt _ (by omega)
    by_cases e : v / 2 ^ n % 2 = 1
    · simp [e]; omega
    · have : v / 2 ^ n % 2 = 0 := by omega
      simp [this]
theorem nb_val (l : List Bool) : nb (val l) l.length = l := by
  induction l with
  | nil => rfl
  | cons b l ih =>
    have h := val_lt l
    rw [List.length_cons, nb_succ]
    have e1 : (val (b :: l)).testBit l.length = b := by
      rw [Nat.testBit_eq_decide_div_mod_eq, val_cons]
      cases b
      · simp [Nat.div_eq_of_lt h]
      · simp only [Bool.toNat_true, Nat.one_mul]
        rw [Nat.add_div_left _ (Nat.two_pow_pos _), Nat.div_eq_of_lt h]; simp
    have e2 : nb (val (b :: l)) l.length = nb (val l) l.length := by
      rw [← nb_mod, val_cons]
      congr 1
      rw [Nat.mul_add_mod_self_right, Nat.mod_eq_of_lt h]
    rw [e1, e2, ih]

/-- A number in groups of seven. -/
def vbf : Nat → Nat → List Bool
  | 0, v => nb v 8
  | k + 1, v => if 127 < v then nb (v % 128 + 128) 8 ++ vbf k (v / 128) else nb v 8
def vb (v : Nat) : List Bool := vbf 10 v

theorem vbf_fuel (k : Nat) (v : Nat) (h : v < 128 ^ (k + 1)) (m : Nat) : vbf (k + m) v = vbf k v := by
  induction k generalizing v with
  | zero =>
    have : v < 128 := by simpa using h
    cases m with
    | zero => rfl
    | succ m =>
      rw [Nat.zero_add, show vbf (m + 1) v = if 127 < v then nb (v % 128 + 128) 8 ++ vbf m (v / 128) else nb v 8 from rfl, if_neg (by omega)]; rfl
  | succ k ih =>
    rw [Nat.succ_add, vbf, vbf]
    split
    · rw [ih (v / 128) (by rw [Nat.pow_succ] at h; exact Nat.div_lt_of_lt_mul (by rw [Nat.mul_comm]; exact h))]
    · rfl
end Go.Proofs.YtepjpdhmjchakaaGreatDoor.Bt
