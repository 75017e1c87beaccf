/- Words of 32 bits and bytes as the walk's integers, behind names that its simp does not open. No condition. Slices that are read: which cells hold their elements; how that is carried from world to world. No condition. A disk, in plain Lean: what lasts, what the cache holds, whether it is dark. No program. append of a slice that is read, whatever its shape, to one of the call's own. append that keeps the old view of the row. The program's disk in memory. -/
import Derived.WalkKit
import Derived.WalkSpells
import Derived.WalkLawsBesides
import Derived.Laws.BitsAllLaws
import Derived.Laws.Rows
import Derived.Laws.Tables
import Derived.Laws.CopyRow
import Derived.Lib.Hide
import Derived.Laws.AppendOwnNone
import Derived.Laws.AppendOwn
import Derived.Deep.AppendLies
import Derived.Deep.DeepAppendRoom
import Derived.Laws.OwnMore
import Derived.Test.YtnplcfgjidolbaaChecked
import Derived.Maps.OwnSet
import Derived.Maps.OwnOps
import Derived.Maps.Views
import Derived.Deep.MidRow
section
namespace Go.Proofs.Ytnplcfgjidolbaa
open Go.RowKit

/-- A word of 32 bits as an integer. -/
def W32 (x : BitVec 32) : Int := x.toNat
/-- A byte as an integer. -/
def W8 (x : UInt8) : Int := x.toNat

theorem W32_def (x : BitVec 32) : W32 x = (x.toNat : Int) := rfl
theorem W8_def (x : UInt8) : W8 x = (x.toNat : Int) := rfl
theorem W32_lt (x : BitVec 32) : 0 ≤ W32 x ∧ W32 x < 4294967296 := by have := x.isLt; unfold W32; omega
theorem W8_lt (x : UInt8) : 0 ≤ W8 x ∧ W8 x < 256 := by have := x.toNat_lt; unfold W8; omega
theorem W32_inj {x y : BitVec 32} (h : W32 x = W32 y) : x = y := by unfold W32 at h; exact BitVec.eq_of_toNat_eq (by omega)
theorem W8_inj {x y : UInt8} (h : W8 x = W8 y) : x = y := by unfold W8 at h; exact UInt8.toNat_inj.1 (by omega)
theorem W32_wf (x : BitVec 32) : (Lit.int .u32 (W32 x)).wf = true := by have := W32_lt x; exact WalkArith.wf_u32 (by omega)
theorem W8_wf (x : UInt8) : (Lit.int .u8 (W8 x)).wf = true := by have := W8_lt x; exact WalkArith.wf_u8 (by omega)

theorem W32_ofInt (x : BitVec 32) : BitVec.ofInt 32 (W32 x) = x := by unfold W32; rw [BitVec.ofInt_natCast, BitVec.ofNat_toNat, BitVec.setWidth_eq]
theorem W8_ofInt32 (x : UInt8) : BitVec.ofInt 32 (W8 x) = x.toBitVec.setWidth 32 := by
  unfold W8; rw [BitVec.ofInt_natCast]; apply BitVec.eq_of_toNat_eq; simp
theorem lit_ofInt32 (n : Nat) : BitVec.ofInt 32 (@OfNat.ofNat Int n _) = BitVec.ofNat 32 n := BitVec.ofInt_natCast 32 n
theorem wrap_toNat32 (x : BitVec 32) : IntKind.u32.wrap (x.toNat : Int) = W32 x := by
  have := x.isLt; unfold W32; rw [IntKind.wrap_u32']; omega

theorem W32_xor (x y : BitVec 32) : bits .xor .u32 (W32 x) (W32 y) = W32 (x ^^^ y) := by
  show IntKind.u32.wrap ((BitVec.ofInt 32 (W32 x) ^^^ BitVec.ofInt 32 (W32 y)).toNat : Int) = _
  rw [W32_ofInt, W32_ofInt, wrap_toNat32]
theorem W32_and (x y : BitVec 32) : bits .and .u32 (W32 x) (W32 y) = W32 (x &&& y) := by
  show IntKind.u32.wrap ((BitVec.ofInt 32 (W32 x) &&& BitVec.ofInt 32 (W32 y)).toNat : Int) = _
  rw [W32_ofInt, W32_ofInt, wrap_toNat32]
theorem W32_or (x y : BitVec 32) : bits .or .u32 (W32 x) (W32 y) = W32 (x ||| y) := by
  show IntKind.u32.wrap ((BitVec.ofInt 32 (W32 x) ||| BitVec.ofInt 32 (W32 y)).toNat : Int) = _
  rw [W32_ofInt, W32_ofInt, wrap_toNat32]
theorem W32_xor8 (x : BitVec 32) (y : UInt8) : bits .xor .u32 (W32 x) (W8 y) = W32 (x ^^^ y.toBitVec.setWidth 32) := by
  show IntKind.u32.wrap ((BitVec.ofInt 32 (W32 x) ^^^ BitVec.ofInt 32 (W8 y)).toNat : Int) = _
  rw [W32_ofInt, W8_ofInt32, wrap_toNat32]
theorem W32_xor_lit (x : BitVec 32) (n : Nat) : bits .xor .u32 (W32 x) (no_index (@OfNat.ofNat Int n _)) = W32 (x ^^^ BitVec.ofNat 32 n) := by
  show IntKind.u32.wrap ((BitVec.ofInt 32 (W32 x) ^^^ BitVec.ofInt 32 (@OfNat.ofNat Int n _)).toNat : Int) = _
  rw [W32_ofInt, lit_ofInt32, wrap_toNat32]
theorem W32_and_lit (x : BitVec 32) (n : Nat) : bits .and .u32 (W32 x) (no_index (@OfNat.ofNat Int n _)) = W32 (x &&& BitVec.ofNat 32 n) := by
  show IntKind.u32.wrap ((BitVec.ofInt 32 (W32 x) &&& BitVec.ofInt 32 (@OfNat.ofNat Int n _)).toNat : Int) = _
  rw [W32_ofInt, lit_ofInt32, wrap_toNat32]
theorem W32_not (x : BitVec 32) : bits .xor .u32 IntKind.u32.max (W32 x) = W32 (~~~x) := by
  rw [show IntKind.u32.max = W32 (BitVec.allOnes 32) from by decide, W32_xor, BitVec.allOnes_xor]
theorem W32_shr (x : BitVec 32) (yk : IntKind) (n : Nat) (h : n ≤ 32) : Op.shift .shr .u32 (W32 x) yk (no_index (@OfNat.ofNat Int n _)) = pure (.int .u32 (W32 (x >>> n))) := by
  have e : (@OfNat.ofNat Int n _ : Int) = (n : Int) := rfl
  rw [shift_shr .u32 yk _ _ (by rw [e]; omega) (by rw [e]; simp [IntKind.bits]; omega), e]
  congr 2
  unfold W32
  rw [BitVec.toNat_ushiftRight, Nat.shiftRight_eq_div_pow, Int.toNat_natCast]
  rw [Int.natCast_ediv, Int.natCast_pow]; rfl
theorem W8_ofInt (x : UInt8) : BitVec.ofInt 8 (W8 x) = x.toBitVec := by unfold W8; rw [BitVec.ofInt_natCast]; apply BitVec.eq_of_toNat_eq; simp
theorem W8_xor (x y : UInt8) : bits .xor .u8 (W8 x) (W8 y) = W8 (x ^^^ y) := by
  show IntKind.u8.wrap ((BitVec.ofInt 8 (W8 x) ^^^ BitVec.ofInt 8 (W8 y)).toNat : Int) = _
  rw [W8_ofInt, W8_ofInt, IntKind.wrap_u8', ← UInt8.toBitVec_xor]
  have := (x ^^^ y).toNat_lt
  show (((x ^^^ y).toNat : Int) % 256) = ((x ^^^ y).toNat : Int)
  omega
attribute [go_sem] W8_xor
attribute [go_sem] W32_xor W32_and W32_or W32_xor8 W32_xor_lit W32_and_lit W32_not
attribute [go_sem high] W32_shr
end Go.Proofs.Ytnplcfgjidolbaa
end
section
namespace Go.Proofs.Ytnplcfgjidolbaa
open Go.RowKit

/-- From block lo on, below block hi, the two worlds hold the same. -/
def Same (lo hi : Nat) (w w' : World) : Prop := ∀ k, lo ≤ k → k < hi → w'.heap[k]? = w.heap[k]?

theorem Same.refl (lo hi : Nat) (w : World) : Same lo hi w w := fun _ _ _ => rfl
theorem Same.trans {lo hi : Nat} {a b c : World} (h : Same lo hi a b) (k : Same lo hi b c) : Same lo hi a c := fun i h1 h2 => (k i h1 h2).trans (h i h1 h2)
theorem Same.mono {lo hi lo' hi' : Nat} {w w' : World} (h : Same lo hi w w') (h1 : lo ≤ lo') (h2 : hi' ≤ hi) : Same lo' hi' w w' := fun k a b => h k (by omega) (by omega)
theorem Same.ofBelow {B : Nat} {w w' : World} (h : Below B w w') (lo hi : Nat) (hh : hi ≤ B) : Same lo hi w w' := fun k _ b => h.block k (by omega)

/-- What a slice of the elements l leads to: each is the one cell that f makes of it; its block lies from lo on, below hi. -/
structure SlC {α : Type} (lo hi : Nat) (f : α → Value) (w : World) (ao : Option Addr) (cap : Nat) (l : List α) : Prop where
  len : l.length ≤ 140737488355328
  nn : ao = none → cap = 0
  cells : l ≠ [] → ∃ b off, ao = some ⟨b, off, none⟩ ∧ lo ≤ b ∧ b < hi ∧ ∀ j (h : j < l.length), w.cell? ⟨b, off + j, none⟩ = some (f l[j])
  le : l.length ≤ cap

/-- The slice v has the elements l. -/
def Sl {α : Type} (lo hi : Nat) (f : α → Value) (w : World) (v : Value) (l : List α) : Prop :=
  ∃ ao cap, v = .slice ao l.length cap ∧ SlC lo hi f w ao cap l

/-- A byte's cell. -/
def f8 (x : UInt8) : Value := .int .u8 (W8 x)

section
variable {α : Type} {lo hi lo' hi' B : Nat} {f : α → Value} {w w' : World} {v : Value} {l : List α} {ao : Option Addr} {cap : Nat}
theorem SlC.same (h : SlC lo hi f w ao cap l) (hs : Same lo hi w w') : SlC lo hi f w' ao cap l := by
  obtain ⟨hl, hn, hc, hle⟩ := h
  refine ⟨hl, hn, fun hne => ?_, hle⟩
  obtain ⟨b, off, ha, h1, h2, hcell⟩ := hc hne
  exact ⟨b, off, ha, h1, h2, fun j hj => (World.cell?_of_block (w := w) (hs b h1 h2)).trans (hcell j hj)⟩
theorem SlC.mono (h : SlC lo hi f w ao cap l) (h1 : lo' ≤ lo) (h2 : hi ≤ hi') : SlC lo' hi' f w ao cap l := by
  obtain ⟨hl, hn, hc, hle⟩ := h
  refine ⟨hl, hn, fun hne => ?_, hle⟩
  obtain ⟨b, off, ha, h3, h4, hcell⟩ := hc hne
  exact ⟨b, off, ha, by omega, by omega, hcell⟩
theorem SlC.below (h : SlC lo hi f w ao cap l) (hb : Below B w w') (hh : hi ≤ B) : SlC lo hi f w' ao cap l :=
  h.same (Same.ofBelow hb _ _ hh)
theorem SlC.none (h : SlC lo hi f w ao cap l) (hn : ao = none) : l.length = 0 ∧ cap = 0 := by
  refine ⟨?_, h.nn hn⟩
  cases l with
  | nil => rfl
  | cons a l => obtain ⟨b, off, ha, _⟩ := h.cells (by simp); rw [hn] at ha; cases ha
/-- The cells, as the laws on append ask for them. -/
theorem SlC.news (h : SlC lo hi f w ao cap l) : ∀ ad, ao = some ad → ∀ j u, (l.map f)[j]? = some u → w.cell? (ad.add j) = some u := by
  intro ad had j u hu
  have hj : j < l.length := by
    have := (List.getElem?_eq_some_iff.1 hu).1
    simpa using this
  obtain ⟨b, off, ha, _, _, hcell⟩ := h.cells (by intro e; subst e; simp at hj)
  rw [had] at ha
  injection ha with ha
  subst ha
  rw [Addr.add_lit, hcell j hj]
  rw [← hu, List.getElem?_map, List.getElem?_eq_getElem hj]; rfl
theorem Sl.same (h : Sl lo hi f w v l) (hs : Same lo hi w w') : Sl lo hi f w' v l := by
  obtain ⟨ao, cap, hv, h⟩ := h; exact ⟨ao, cap, hv, h.same hs⟩
theorem Sl.mono (h : Sl lo hi f w v l) (h1 : lo' ≤ lo) (h2 : hi ≤ hi') : Sl lo' hi' f w v l := by
  obtain ⟨ao, cap, hv, h⟩ := h; exact ⟨ao, cap, hv, h.mono h1 h2⟩
theorem Sl.below (h : Sl lo hi f w v l) (hb : Below B w w') (hh : hi ≤ B) : Sl lo hi f w' v l :=
  h.same (Same.ofBelow hb _ _ hh)
theorem Sl.len (h : Sl lo hi f w v l) : l.length ≤ 140737488355328 := by
  obtain ⟨_, _, _, h⟩ := h; exact h.len
end
/-- The cells of a block that has just been laid. -/
theorem news_alloc (w : World) (cs : List Value) (t : TypeId) : ∀ j u, cs[j]? = some u → (w.alloc (.cells cs.toArray t)).cell? ((⟨w.heap.size, 0, none⟩ : Addr).add j) = some u := by
  intro j u hu
  rw [Addr.add_lit, cell_of_row _ _ _ _ _ _ (heap_alloc_new w _), Nat.zero_add]
  simpa using hu
theorem f8_one (l : List UInt8) : ∀ u ∈ l.map f8, u.oneCell' = true := by
  intro u hu
  obtain ⟨_, _, rfl⟩ := List.mem_map.1 hu
  rfl
theorem Sl.nil {α : Type} (lo hi : Nat) (f : α → Value) (w : World) : Sl lo hi f w (.slice none 0 0) ([] : List α) := ⟨none, 0, rfl, by simp, fun _ => rfl, fun h => absurd rfl h, by simp⟩

/-- A row of the call's own that is full: its block's very cells. -/
theorem own_full {w : World} {base : Nat} {e : TypeId} {g n : Nat} {xs : List Value} (h : w.ownsRow base e 1 (.slice (some ⟨g, 0, none⟩) n n) n xs) :
    base ≤ g ∧ w.heap[g]? = some (.cells xs.toArray e (0, 0)) := by
  obtain ⟨hl, h | ⟨g', cap, cur, hv, hb, hh, h1, h2, h3, h4⟩⟩ := h
  · simp at h
  · simp only [Value.slice.injEq, Option.some.injEq, Addr.mk.injEq] at hv
    obtain ⟨⟨rfl, -⟩, -, rfl⟩ := hv
    refine ⟨hb, ?_⟩
    rw [hh, ← h4, Nat.mul_one, List.take_of_length_le (by simp [h3])]
/-- Of a row that the call owns its slice has the elements. -/
theorem Sl.owns {α : Type} {w : World} {base : Nat} {e : TypeId} {f : α → Value} {v : Value} {l : List α} (h : w.ownsRow base e 1 v l.length (l.map f)) (hl : l.length ≤ 140737488355328) :
    Sl base w.heap.size f w v l := by
  obtain ⟨_, ⟨rfl, hn⟩ | ⟨g, cap, cur, rfl, hb, hh, h1, h2, h3, h4⟩⟩ := h
  · exact ⟨none, 0, by rw [hn], hl, fun _ => rfl, fun hne => absurd (List.eq_nil_of_length_eq_zero hn) hne, by omega⟩
  · refine ⟨_, cap, rfl, hl, (fun h => by cases h), fun _ => ⟨g, 0, rfl, hb, ?_, fun j hj => ?_⟩, h1⟩
    · rcases Nat.lt_or_ge g w.heap.size with h | h
      · exact h
      · rw [Array.getElem?_eq_none h] at hh; cases hh
    · rw [cell_of_row _ _ _ _ _ _ hh, Nat.zero_add, ← Array.getElem?_toList]
      have h5 := congrArg (fun (t : List Value) => t[j]?) h4
      simp only [List.getElem?_take, Nat.mul_one, hj, if_true, List.getElem?_map, List.getElem?_eq_getElem hj, Option.map_some] at h5
      exact h5
end Go.Proofs.Ytnplcfgjidolbaa
end
section
namespace Go.Proofs.Ytnplcfgjidolbaa

/-- A disk. -/
structure Dsk where
  ls : List (List UInt8)
  cs : List (Nat × List UInt8)
  dark : Bool
  trip : Int
  rd : Int
  wr : Int
  fl : Int

/-- Which write of the cache is a sector's last. -/
def lastOf (cs : List (Nat × List UInt8)) (a : Nat) : Option Nat := cs.zipIdx.foldl (fun r p => if p.1.1 = a then some p.2 else r) none
theorem lastOf_nil (a : Nat) : lastOf [] a = none := rfl
theorem lastOf_snoc (cs : List (Nat × List UInt8)) (b : Nat) (s : List UInt8) (a : Nat) : lastOf (cs ++ [(b, s)]) a = if b = a then some cs.length else lastOf cs a := by
  unfold lastOf
  rw [List.zipIdx_append, List.foldl_append]
  simp
theorem snoc_of {α : Type} (l : List α) (h : l ≠ []) : ∃ l' b, l = l' ++ [b] := ⟨l.dropLast, l.getLast h, (List.dropLast_concat_getLast h).symm⟩
theorem lastOf_some (cs : List (Nat × List UInt8)) (a j : Nat) (h : lastOf cs a = some j) : ∃ c, cs[j]? = some c ∧ c.1 = a := by
  have key : ∀ n (cs : List (Nat × List UInt8)), cs.length = n → ∀ j, lastOf cs a = some j → ∃ c, cs[j]? = some c ∧ c.1 = a := by
    intro n
    induction n with
    | zero => intro cs hc j hj; rw [List.length_eq_zero_iff] at hc; subst hc; cases hj
    | succ n ih =>
      intro cs hc j hj
      obtain ⟨l, ⟨b, s⟩, rfl⟩ := snoc_of cs (by intro e; subst e; simp at hc)
      rw [lastOf_snoc] at hj
      split at hj
      · rename_i hb
        injection hj with hj
        subst hj
        exact ⟨(b, s), by simp, hb⟩
      · obtain ⟨c, h1, h2⟩ := ih l (by simpa using hc) j hj
        exact ⟨c, by rw [List.getElem?_append_left (List.getElem?_eq_some_iff.1 h1).1]; exact h1, h2⟩
  exact key _ cs rfl j h

/-- An operation begins: it is done, or not. -/
def Dsk.begins (d : Dsk) : Dsk × Bool :=
  if d.dark then (d, false) else if d.trip = 0 then ({ d with dark := true, trip := -1 }, false) else ({ d with trip := if 0 < d.trip then d.trip - 1 else d.trip }, true)
/-- A sector, as it was written last. -/
def Dsk.get (d : Dsk) (a : Nat) : List UInt8 := match lastOf d.cs a with | some j => (d.cs.getD j (0, [])).2 | none => d.ls.getD a []
/-- A write. -/
def Dsk.put (d : Dsk) (a : Int) (s : List UInt8) : Dsk × Int :=
  let (d', go) := d.begins
  if go = false then (d', 4) else
  let d' := { d' with wr := d'.wr + 1 }
  if a < 0 ∨ (d'.ls.length : Int) ≤ a then (d', 2) else if s.length ≠ 256 then (d', 3) else ({ d' with cs := d'.cs ++ [(a.toNat, s)] }, 0)
/-- What lasts, behind some writes of the cache that are kept. -/
def settled (ls : List (List UInt8)) (cs : List (Nat × List UInt8)) (f : Nat → Bool) : List (List UInt8) := cs.zipIdx.foldl (fun ls p => if f p.2 then ls.set p.1.1 p.1.2 else ls) ls
theorem settled_nil (ls : List (List UInt8)) (f : Nat → Bool) : settled ls [] f = ls := rfl
theorem settled_snoc (ls : List (List UInt8)) (cs : List (Nat × List UInt8)) (c : Nat × List UInt8) (f : Nat → Bool) : settled ls (cs ++ [c]) f = if f cs.length then (settled ls cs f).set c.1 c.2 else settled ls cs f := by
  unfold settled
  rw [List.zipIdx_append, List.foldl_append]
  simp
theorem settled_len (ls : List (List UInt8)) (cs : List (Nat × List UInt8)) (f : Nat → Bool) : (settled ls cs f).length = ls.length := by
  have key : ∀ (l : List ((Nat × List UInt8) × Nat)) (ls : List (List UInt8)), (l.foldl (fun ls p => if f p.2 then ls.set p.1.1 p.1.2 else ls) ls).length = ls.length := by
    intro l
    induction l with
    | nil => intro ls; rfl
    | cons p l ih => intro ls; rw [List.foldl_cons, ih]; split <;> simp
  exact key _ ls
theorem settled_take (ls : List (List UInt8)) (cs : List (Nat × List UInt8)) (f : Nat → Bool) (k : Nat) (hk : k < cs.length) : settled ls (cs.take (k + 1)) f = if f k then (settled ls (cs.take k) f).set cs[k].1 cs[k].2 else settled ls (cs.take k) f := by
  rw [List.take_succ_eq_append_getElem hk, settled_snoc]
  simp [Nat.min_eq_left (Nat.le_of_lt hk)]
/-- Each sector has its bytes. -/
def Dsk.ok (d : Dsk) : Prop := (∀ s ∈ d.ls, s.length = 256) ∧ ∀ c ∈ d.cs, c.2.length = 256 ∧ c.1 < d.ls.length
theorem settled_ok {ls : List (List UInt8)} {cs : List (Nat × List UInt8)} (f : Nat → Bool) (h1 : ∀ s ∈ ls, s.length = 256) (h2 : ∀ c ∈ cs, c.2.length = 256) : ∀ s ∈ settled ls cs f, s.length = 256 := by
  have key : ∀ (l : List ((Nat × List UInt8) × Nat)), (∀ p ∈ l, p.1.2.length = 256) → ∀ (ls : List (List UInt8)), (∀ s ∈ ls, s.length = 256) → ∀ s ∈ l.foldl (fun ls p => if f p.2 then ls.set p.1.1 p.1.2 else ls) ls, s.length = 256 := by
    intro l
    induction l with
    | nil => intro _ ls h s hs; exact h s hs
    | cons p l ih =>
      intro hl ls h
      rw [List.foldl_cons]
      refine ih (fun q hq => hl q (List.mem_cons_of_mem _ hq)) _ ?_
      split
      · intro s hs
        rcases List.mem_or_eq_of_mem_set hs with h3 | rfl
        · exact h s h3
        · exact hl p (by simp)
      · exact h
  refine key _ (fun p hp => ?_) ls h1
  have := List.fst_mem_of_mem_zipIdx hp
  exact h2 _ this
end Go.Proofs.Ytnplcfgjidolbaa
end
section
namespace Go.Proofs.Ytnplcfgjidolbaa
open Go.RowKit

theorem wpList_append_sl {P : Program} {w : World} {ops : Array Oper} {rest : List Oper} {o : Oper} {a : Act} {Q : Exit → Act → World → Prop} (hgd : o.guard = none) (s x : Operand) (t : TypeId)
    (ho : o.op = .call { callee := .builtin .append, args := #[s, x], argTypes := #[t, t] })
    (base : Nat) (e : TypeId) (i : TypeInfo) (z : Value) (bytes : Nat) (ht : P.underlying t = some (.slice e)) (hi : P.info? e = some i) (hz : i.zero = some z)
    (hsize : i.size = 1) (hby : i.bytes = bytes) (hzs : z.cells.size = 1)
    (v : Value) (n : Nat) (xs : List Value) (hs : a.eval s = v) (hown : w.ownsRow base e 1 v n xs)
    {α : Type} {lo hi' : Nat} {f : α → Value} (ao : Option Addr) (cap : Nat) (l : List α) (hx : a.eval x = .slice ao l.length cap) (hsl : SlC lo hi' f w ao cap l) (h1 : ∀ u ∈ l.map f, u.oneCell' = true)
    (h63 : n + l.length ≤ maxLen) (hbytes : (n + l.length) * bytes ≤ 140737488355328) (hbase : base ≤ w.heap.size)
    (h : ∀ v' w', w'.ownsRow base e 1 v' (n + l.length) (xs ++ l.map f) → w.grownBy w' v.ownBlock → wpList P ops Q rest (a.put o.dst v') w') : wpList P ops Q (o :: rest) a w := by
  cases ao with
  | none =>
    obtain ⟨h0, hc⟩ := hsl.none rfl
    have hl : l = [] := List.eq_nil_of_length_eq_zero h0
    subst hl
    subst hc
    refine wpList_append_own_none hgd s x t ho base e i 1 ht hi v n xs hs hown hx (h v w ?_ (World.grownBy.refl _ _))
    simpa using hown
  | some ad =>
    exact wpList_append_own w hgd s x t ho base e i z 1 bytes ht hi hz hsize hby hzs (by decide) v n xs hs hown ad l.length cap (l.map f) hx (by simp) (hsl.news ad rfl) h1 h63 hbytes hbase (fun v' w' a1 a2 _ => h v' w' a1 a2)

theorem own_shape {w : World} {base : Nat} {e : TypeId} {size : Nat} {v : Value} {n : Nat} {xs : List Value} (h : w.ownsRow base e size v n xs) (hn : 0 < n) :
    ∃ g cap, v = .slice (some ⟨g, 0, none⟩) n cap ∧ base ≤ g ∧ g < w.heap.size := by
  obtain ⟨_, ⟨_, h0⟩ | ⟨g, cap, cur, hv, hb, hh, _⟩⟩ := h
  · omega
  · refine ⟨g, cap, hv, hb, ?_⟩
    rcases Nat.lt_or_ge g w.heap.size with h | h
    · exact h
    · rw [Array.getElem?_eq_none h] at hh; cases hh

theorem own_row {w : World} {base : Nat} {e : TypeId} {size : Nat} {v : Value} {n : Nat} {xs : List Value} (h : w.ownsRow base e size v n xs) : ∀ k, v.ownBlock = some k → base ≤ k := fun k hk => (h.lt k hk).1
end Go.Proofs.Ytnplcfgjidolbaa
end
section
namespace Go.Proofs.Ytnplcfgjidolbaa
open Go.RowKit

/-- The new row is the old one with room, or a new block with the old one as it was. -/
def Stay (w w' : World) (v : Value) (n g cap' : Nat) : Prop :=
  (v = .slice (some ⟨g, 0, none⟩) n cap' ∧ w.grownBy w' (some g)) ∨ (g = w.heap.size ∧ w.grownBy w' none)

theorem run_append_stay {P : Program} (w : World) (t ty : TypeId) (base : Nat) (e : TypeId) (i : TypeInfo) (z : Value) (bytes : Nat) (ht : P.underlying t = some (.slice e)) (hi : P.info? e = some i) (hz : i.zero = some z)
    (hsize : i.size = 1) (hby : i.bytes = bytes) (hzs : z.cells.size = 1)
    (v : Value) (n : Nat) (xs : List Value) (hown : w.ownsRow base e 1 v n xs)
    (ad : Addr) (c : Nat) (u : Value) (hnews : w.cell? ad = some u) (h1 : u.oneCell' = true) (had : ∀ j u', [u][j]? = some u' → w.cell? (ad.add j) = some u')
    (h63 : n + 1 ≤ maxLen) (hbytes : (n + 1) * bytes ≤ 140737488355328) (hbase : base ≤ w.heap.size) :
    ∃ g cap w', (Builtin.append_ #[t, t] ty #[v, .slice (some ad) 1 c]).run P w = .ok (.slice (some ⟨g, 0, none⟩) (n + 1) cap) w' ∧
      w'.ownsRow base e 1 (.slice (some ⟨g, 0, none⟩) (n + 1) cap) (n + 1) (xs ++ [u]) ∧ Stay w w' v n g cap ∧ g < w'.heap.size := by
  have h1' : ∀ u' ∈ [u], u'.oneCell' = true := by intro u' h; simp at h; subst h; exact h1
  obtain ⟨g, cap', w', hr, h2, h3, h4, h5⟩ := run_append_lies (P := P) w t ty base e i z 1 bytes ht hi hz hsize hby hzs (by decide) v n xs hown ad 1 c [u] rfl had h1' (by decide) h63 hbytes hbase _ rfl
  rcases hown.2 with ⟨rfl, rfl⟩ | ⟨g0, cap, cur, rfl, hbg, hg, hnc, hcm, hcs, htake⟩
  · refine ⟨g, cap', w', hr, h2, .inr ⟨?_, h3⟩, h5⟩
    rcases h4 with h4 | h4
    · cases h4
    · exact h4
  · by_cases hroom : n + 1 ≤ cap
    · obtain ⟨w2, hr2, h22, h23⟩ := run_append_own_spare (P := P) w base t ty e i 1 ht hi hsize g0 n cap xs hown ad 1 c [u] rfl had h1' hroom
      rw [hr] at hr2
      simp only [Result.ok.injEq, Value.slice.injEq, Option.some.injEq, Addr.mk.injEq, and_true, true_and] at hr2
      obtain ⟨⟨rfl, rfl⟩, rfl⟩ := hr2
      exact ⟨_, _, _, hr, h2, .inl ⟨rfl, h23⟩, h5⟩
    · have holds : ∀ j u, xs[j]? = some u → w.cell? ((⟨g0, 0, none⟩ : Addr).add j) = some u := hown.cells (g := g0) rfl
      subst hby
      have hsm : n + 1 ≤ 9223372036854775807 := by unfold maxLen at h63; omega
      have hr2 := run_append_grow (P := P) w t ty e i z ht hi hz ⟨g0, 0, none⟩ n cap xs (by rw [hsize]; exact hown.1) holds ad 1 c [u] (by rw [hsize]; rfl) had (by omega) (by omega) (growslice_fits (by omega) hbytes)
      rw [hr] at hr2
      simp only [Result.ok.injEq, Value.slice.injEq, Option.some.injEq, Addr.mk.injEq, and_true, true_and] at hr2
      obtain ⟨⟨hgg, -⟩, hw⟩ := hr2
      refine ⟨g, cap', w', hr, h2, .inr ⟨hgg, ?_⟩, h5⟩
      rw [hw]
      exact ⟨rfl, rfl, rfl, by simp, fun k hk _ => Below.heap_alloc w.drew _ k hk⟩

theorem wpList_append_stay {P : Program} (w : World) {ops : Array Oper} {rest : List Oper} {o : Oper} {a : Act} {Q : Exit → Act → World → Prop} (hgd : o.guard = none) (s x : Operand) (t : TypeId)
    (ho : o.op = .call { callee := .builtin .append, args := #[s, x], argTypes := #[t, t] })
    (base : Nat) (e : TypeId) (i : TypeInfo) (z : Value) (bytes : Nat) (ht : P.underlying t = some (.slice e)) (hi : P.info? e = some i) (hz : i.zero = some z)
    (hsize : i.size = 1) (hby : i.bytes = bytes) (hzs : z.cells.size = 1)
    (v : Value) (n : Nat) (xs : List Value) (hs : a.eval s = v) (hown : w.ownsRow base e 1 v n xs)
    (ad : Addr) (c : Nat) (u : Value) (hx : a.eval x = .slice (some ad) 1 c) (had : ∀ j u', [u][j]? = some u' → w.cell? (ad.add j) = some u') (h1 : u.oneCell' = true)
    (h63 : n + 1 ≤ maxLen) (hbytes : (n + 1) * bytes ≤ 140737488355328) (hbase : base ≤ w.heap.size)
    (h : ∀ g cap w', w'.ownsRow base e 1 (.slice (some ⟨g, 0, none⟩) (n + 1) cap) (n + 1) (xs ++ [u]) → Stay w w' v n g cap → g < w'.heap.size → wpList P ops Q rest (a.put o.dst (.slice (some ⟨g, 0, none⟩) (n + 1) cap)) w') : wpList P ops Q (o :: rest) a w := by
  refine wpList_plain hgd fun K hK => ?_
  have h0 : w.cell? ad = some u := by
    have := had 0 u rfl
    cases ad with
    | mk b o sp => cases sp <;> simpa [Addr.add] using this
  obtain ⟨g, cap, w', hr, h2, h3, h4⟩ := run_append_stay (P := P) w t o.type base e i z bytes ht hi hz hsize hby hzs v n xs hown ad c u h0 h1 had h63 hbytes hbase
  unfold Oper.wp execOp
  simp only [ho, resolve, invoke, builtin, Sem.run_bind, Sem.run_pure, Result.andThen_ok, List.map_toArray, List.map_cons, List.map_nil, hs, hx, hr]
  exact hK _ _ (h g cap w' h2 h3 h4)

/-- The first elements of a row, as a row. -/
theorem own_prefix {w : World} {base : Nat} {e : TypeId} {g cap : Nat} {n m : Nat} {ys : List Value} (h : w.ownsRow base e 1 (.slice (some ⟨g, 0, none⟩) (n + m) cap) (n + m) ys) : w.ownsRow base e 1 (.slice (some ⟨g, 0, none⟩) n cap) n (ys.take n) := by
  obtain ⟨hl, h | ⟨g', cap', cur, hv, hb, hh, h1, h2, h3, h4⟩⟩ := h
  · simp at h
  · simp only [Value.slice.injEq, Option.some.injEq, Addr.mk.injEq, and_true, true_and] at hv
    obtain ⟨rfl, rfl⟩ := hv
    refine ⟨by simp at hl ⊢; omega, .inr ⟨g, cap, cur, rfl, hb, hh, by omega, h2, h3, ?_⟩⟩
    rw [← h4, List.take_take]
    congr 1
    omega
/-- Two views of one block have one capacity. -/
theorem own_cap {w : World} {base base' : Nat} {e : TypeId} {g cap cap' n n' : Nat} {xs ys : List Value} (h : w.ownsRow base e 1 (.slice (some ⟨g, 0, none⟩) n cap) n xs) (k : w.ownsRow base' e 1 (.slice (some ⟨g, 0, none⟩) n' cap') n' ys) : cap = cap' := by
  obtain ⟨_, h | ⟨g1, c1, cur1, hv, _, hh, _, _, h3, _⟩⟩ := h
  · simp at h
  · obtain ⟨_, k | ⟨g2, c2, cur2, kv, _, kk, _, _, k3, _⟩⟩ := k
    · simp at k
    · simp only [Value.slice.injEq, Option.some.injEq, Addr.mk.injEq, and_true, true_and] at hv kv
      obtain ⟨rfl, rfl⟩ := hv
      obtain ⟨rfl, rfl⟩ := kv
      rw [hh] at kk
      injection kk with kk
      injection kk with kk
      subst kk
      omega
/-- Rows of two element types lie apart. -/
theorem own_apart {w : World} {base base' : Nat} {e e' : TypeId} {s s' : Nat} {v v' : Value} {n n' : Nat} {xs ys : List Value} (h : w.ownsRow base e s v n xs) (k : w.ownsRow base' e' s' v' n' ys) (hne : e ≠ e') : ∀ b, v.ownBlock = some b → v'.ownBlock ≠ some b := by
  intro b hb hb'
  obtain ⟨_, ⟨rfl, _⟩ | ⟨g1, c1, cur1, rfl, _, hh, _⟩⟩ := h
  · cases hb
  · obtain ⟨_, ⟨rfl, _⟩ | ⟨g2, c2, cur2, rfl, _, kk, _⟩⟩ := k
    · cases hb'
    · injection hb with hb
      injection hb' with hb'
      have e1 : g1 = b := hb
      have e2 : g2 = b := hb'
      rw [e1] at hh
      rw [e2, hh] at kk
      injection kk with kk
      injection kk with _ kk
      exact hne kk
end Go.Proofs.Ytnplcfgjidolbaa
end
section
namespace Go.Proofs.Ytnplcfgjidolbaa
open Go.RowKit Go.Maps

/-- A sector's cells; a write's. -/
def sec (s : List UInt8) : List Value := s.map f8
def wcl (c : Nat × List UInt8) : List Value := .int .i64 (c.1 : Int) :: sec c.2
theorem sec_len (s : List UInt8) : (sec s).length = s.length := by simp [sec]
theorem wcl_len (c : Nat × List UInt8) : (wcl c).length = c.2.length + 1 := by simp [wcl, sec_len]

/-- Cells one after the other, each part as long. -/
theorem flat_get {α : Type} {g : α → List Value} {m : Nat} (l : List α) (h : ∀ x ∈ l, (g x).length = m) (k j : Nat) (hk : k < l.length) (hj : j < m) : (l.flatMap g)[k * m + j]? = (g l[k])[j]? := by
  induction l generalizing k with
  | nil => simp at hk
  | cons x l ih =>
    have hx := h x (by simp)
    rw [List.flatMap_cons]
    cases k with
    | zero => rw [Nat.zero_mul, Nat.zero_add, List.getElem?_append_left (by omega)]; rfl
    | succ k =>
      rw [List.getElem?_append_right (by rw [Nat.succ_mul]; omega), hx, show (k + 1) * m + j - m = k * m + j from by rw [Nat.succ_mul]; omega]
      exact ih (fun y hy => h y (by simp [hy])) k (by simpa using hk)
theorem flat_len {α : Type} {g : α → List Value} {m : Nat} (l : List α) (h : ∀ x ∈ l, (g x).length = m) : (l.flatMap g).length = l.length * m := by
  induction l with
  | nil => simp
  | cons x l ih => rw [List.flatMap_cons, List.length_append, h x (by simp), ih (fun y hy => h y (by simp [hy])), List.length_cons, Nat.succ_mul]; omega
theorem flat_set {α : Type} {g : α → List Value} {m : Nat} (l : List α) (h : ∀ x ∈ l, (g x).length = m) (k : Nat) (x : α) (hk : k < l.length) :
    (l.set k x).flatMap g = (l.flatMap g).take (k * m) ++ g x ++ (l.flatMap g).drop (k * m + m) := by
  induction l generalizing k with
  | nil => simp at hk
  | cons y l ih =>
    have hy := h y (by simp)
    cases k with
    | zero => simp [List.flatMap_cons, hy]
    | succ k =>
      have e1 : ((y :: l).flatMap g).take ((k + 1) * m) = g y ++ (l.flatMap g).take (k * m) := by
        rw [List.flatMap_cons, show (k + 1) * m = (g y).length + k * m from by rw [Nat.succ_mul, hy]; omega, List.take_length_add_append]
      have e2 : ((y :: l).flatMap g).drop ((k + 1) * m + m) = (l.flatMap g).drop (k * m + m) := by
        rw [List.flatMap_cons, show (k + 1) * m + m = (g y).length + (k * m + m) from by rw [Nat.succ_mul, hy]; omega, List.drop_length_add_append]
      rw [e1, e2, List.set_cons_succ, List.flatMap_cons, ih (fun z hz => h z (by simp [hz])) k (by simpa using hk)]
      simp [List.append_assoc]

/-- Cells stored one by one. -/
theorem heap_setCells (w : World) (b : Nat) (t : TypeId) : ∀ (vs : List Value) (o : Nat) (cur : Array Value), w.heap[b]? = some (.cells cur t (0, 0)) → o + vs.length ≤ cur.size →
    (w.setCells b o vs).heap[b]? = some (.cells (cur.toList.take o ++ vs ++ cur.toList.drop (o + vs.length)).toArray t (0, 0)) := by
  intro vs
  induction vs generalizing w with
  | nil => intro o cur h _; simp [World.setCells, h]
  | cons v vs ih =>
    intro o cur h ho
    simp only [List.length_cons] at ho
    rw [World.setCells, ih (w.setCell ⟨b, o, none⟩ v) (o + 1) (cur.setIfInBounds o v) (heap_setCell_same w b o cur t v h) (by simp; omega)]
    congr 2
    have e : (cur.setIfInBounds o v).toList = cur.toList.set o v := by simp
    rw [e, List.take_succ_eq_append_getElem (by simp; omega)]
    simp only [List.getElem_set_self, List.length_cons]
    rw [List.take_set_of_le (Nat.le_refl _), List.drop_set_of_lt (by omega), show o + 1 + vs.length = o + (vs.length + 1) from by omega]
    simp
theorem heap_setCells_other' (b : Nat) : ∀ (vs : List Value) (o : Nat) (w : World) (k : Nat), k ≠ b → (w.setCells b o vs).heap[k]? = w.heap[k]? := by
  intro vs
  induction vs with
  | nil => intro o w k _; rfl
  | cons v vs ih => intro o w k hk; rw [World.setCells, ih _ _ _ hk, heap_setCell_other _ _ _ _ hk]
theorem setCells_rest (b : Nat) : ∀ (vs : List Value) (o : Nat) (w : World), (w.setCells b o vs).os = w.os ∧ (w.setCells b o vs).tape = w.tape ∧ (w.setCells b o vs).output = w.output ∧ (w.setCells b o vs).heap.size = w.heap.size := by
  intro vs
  induction vs with
  | nil => intro o w; exact ⟨rfl, rfl, rfl, rfl⟩
  | cons v vs ih =>
    intro o w
    rw [World.setCells]
    obtain ⟨h1, h2, h3, h4⟩ := ih (o + 1) (w.setCell ⟨b, o, none⟩ v)
    exact ⟨by rw [h1]; rfl, by rw [h2]; rfl, by rw [h3]; rfl, by rw [h4]; simp⟩

theorem und161 : Try.prog.underlying 161 = some (.map 3 3) := by kernel_rfl
theorem und3 : Try.prog.underlying 3 = some (.int .i64) := by kernel_rfl
/-- The map says which write is a sector's last. -/
def Seen (D : DataW Unit) (cs : List (Nat × List UInt8)) : Prop :=
  IsMap D ∧ ∀ a : Nat, Maps.has D (.int .i64 (a : Int)) = (lastOf cs a).isSome ∧ ∀ j, lastOf cs a = some j → D.atKey (.int .i64 (a : Int)) (.lit (.int .i64 0)) = .lit (.int .i64 (j : Int))
theorem seen_nil : Seen (.map []) [] := ⟨isMap_empty, fun a => ⟨rfl, fun j h => by cases h⟩⟩
theorem seen_snoc {D : DataW Unit} {cs : List (Nat × List UInt8)} (h : Seen D cs) (b : Nat) (s : List UInt8) : Seen (D.put (.int .i64 (b : Int)) (.lit (.int .i64 (cs.length : Int)))) (cs ++ [(b, s)]) := by
  refine ⟨h.1.put _ _, fun a => ?_⟩
  rw [lastOf_snoc]
  by_cases hb : b = a
  · subst hb
    rw [if_pos rfl]
    refine ⟨has_put_same h.1 (by constructor) _, fun j hj => ?_⟩
    injection hj with hj
    subst hj
    exact atKey_put_same h.1 (by constructor) _ _
  · rw [if_neg hb]
    have hne : (Lit.int .i64 (a : Int)) ≠ .int .i64 (b : Int) := by intro e; injection e with _ e; omega
    rw [has_put_other hne]
    refine ⟨(h.2 a).1, fun j hj => ?_⟩
    rw [atKey_put_other hne]
    exact (h.2 a).2 j hj

/-- The disk's own eight cells. -/
def dkTop (lb bm : Nat) (cv : Value) (d : Dsk) : Array Value := #[.slice (some ⟨lb, 0, none⟩) d.ls.length d.ls.length, cv, .map (some bm), .bool d.dark, .int .i64 d.trip, .int .i64 d.rd, .int .i64 d.wr, .int .i64 d.fl]
/-- The disk at block B. -/
structure Dk (w : World) (base B lb bm : Nat) (cv : Value) (d : Dsk) : Prop where
  top : w.heap[B]? = some (.cells (dkTop lb bm cv d) 164 (0, 0))
  las : w.heap[lb]? = some (.cells (d.ls.flatMap sec).toArray 168 (0, 0))
  cache : w.ownsRow base 170 257 cv d.cs.length (d.cs.flatMap wcl)
  seen : ∃ D : DataW Unit, w.ownsMap Try.prog 3 (plainElem Try.prog 3) bm d.cs.length D ∧ Seen D d.cs
  ok : d.ok
  lo : base ≤ B ∧ base ≤ lb ∧ base ≤ bm

/-- What of the old blocks is the disk's may turn, and nothing else. -/
structure Dfr (base : Nat) (w w' : World) : Prop where
  below : Below base w w'
  keep : ∀ (k : Nat) cs t fr, w.heap[k]? = some (.cells cs t fr) → t ≠ 164 → t ≠ 168 → t ≠ 170 → w'.heap[k]? = w.heap[k]?
theorem Dfr.refl (base : Nat) (w : World) : Dfr base w w := ⟨Below.refl _ _, fun _ _ _ _ _ _ _ _ => rfl⟩
theorem Dfr.trans {base : Nat} {a b c : World} (h : Dfr base a b) (k : Dfr base b c) : Dfr base a c :=
  ⟨h.below.trans k.below, fun i cs t fr hi h1 h2 h3 => (k.keep i cs t fr ((h.keep i cs t fr hi h1 h2 h3).trans hi) h1 h2 h3).trans (h.keep i cs t fr hi h1 h2 h3)⟩
theorem heap_lt' {w : World} {B : Nat} {o : Obj} (h : w.heap[B]? = some o) : B < w.heap.size := by
  rcases Nat.lt_or_ge B w.heap.size with h2 | h2
  · exact h2
  · rw [Array.getElem?_eq_none h2] at h; cases h
theorem Dfr.ofBelow {base : Nat} {w w' : World} (h : Below w.heap.size w w') (hb : base ≤ w.heap.size) : Dfr base w w' :=
  ⟨h.mono hb, fun i _ _ _ hi _ _ _ => h.block i (heap_lt' hi)⟩
theorem Dfr.alloc {base : Nat} {w : World} (o : Obj) (hb : base ≤ w.heap.size) : Dfr base w (w.alloc o) := Dfr.ofBelow ((Below.refl _ _).alloc (Nat.le_refl _) _) hb
theorem Dfr.own {base base' : Nat} {w w' : World} (h : Dfr base w w') {e : TypeId} {s : Nat} {v : Value} {n : Nat} {xs : List Value} (hv : w.ownsRow base' e s v n xs) (h1 : e ≠ 164) (h2 : e ≠ 168) (h3 : e ≠ 170) : w'.ownsRow base' e s v n xs := by
  obtain ⟨k1, ⟨rfl, k2⟩ | ⟨g, cap, cur, rfl, k3, k4, k5⟩⟩ := hv
  · exact ⟨k1, .inl ⟨rfl, k2⟩⟩
  · exact ⟨k1, .inr ⟨g, cap, cur, rfl, k3, (h.keep g cur e _ k4 h1 h2 h3).trans k4, k5⟩⟩
/-- One block of the disk's is written. -/
theorem Dfr.one {base : Nat} {w w' : World} {B : Nat} {cs : Array Value} {t : TypeId} (hB : w.heap[B]? = some (.cells cs t (0, 0))) (ht : t = 164 ∨ t = 168 ∨ t = 170) (hb : base ≤ B) (h1 : w'.os = w.os) (h2 : w'.tape = w.tape) (h3 : w'.output = w.output) (h4 : w'.heap.size = w.heap.size) (h5 : ∀ k, k ≠ B → w'.heap[k]? = w.heap[k]?) : Dfr base w w' :=
  ⟨⟨h1, h2, h3, Nat.le_of_eq h4.symm, fun k hk => h5 k (by omega)⟩, fun k cs' t' fr hk a1 a2 a3 => h5 k (fun e => by
    subst e
    rw [hB] at hk
    injection hk with hk
    injection hk with _ hk
    subst hk
    rcases ht with h | h | h
    · exact a1 h
    · exact a2 h
    · exact a3 h)⟩

section
variable {w w' : World} {base B lb bm : Nat} {cv : Value} {d : Dsk}
theorem Dk.below (h : Dk w base B lb bm cv d) (hb : Below w.heap.size w w') : Dk w' base B lb bm cv d := by
  obtain ⟨D, h1, h2⟩ := h.seen
  exact ⟨(hb.block B (heap_lt' h.top)).trans h.top, (hb.block lb (heap_lt' h.las)).trans h.las, by
    obtain ⟨k1, ⟨k0, k2⟩ | ⟨g, cap, cur, k0, k3, k4, k5⟩⟩ := h.cache
    · exact ⟨k1, .inl ⟨k0, k2⟩⟩
    · exact ⟨k1, .inr ⟨g, cap, cur, k0, k3, (hb.block g (heap_lt' k4)).trans k4, k5⟩⟩,
    ⟨D, by obtain ⟨es, cl, e1, e2⟩ := h1; exact ⟨es, cl, (hb.block bm (heap_lt' e1)).trans e1, e2⟩, h2⟩, h.ok, h.lo⟩
theorem Dk.ne (h : Dk w base B lb bm cv d) : B ≠ lb ∧ B ≠ bm ∧ lb ≠ bm ∧ cv.ownBlock ≠ some B ∧ cv.ownBlock ≠ some lb ∧ cv.ownBlock ≠ some bm := by
  obtain ⟨D, ⟨es, cl, hm, _⟩, _⟩ := h.seen
  have hc : ∀ k, cv.ownBlock = some k → ∃ cur, w.heap[k]? = some (.cells cur 170 (0, 0)) := by
    intro k hk
    obtain ⟨_, ⟨k0, _⟩ | ⟨g, cap, cur, k0, _, k4, _⟩⟩ := h.cache
    · rw [k0] at hk; cases hk
    · rw [k0] at hk
      have : g = k := by injection hk
      exact ⟨cur, by rw [← this]; exact k4⟩
  have h1 := h.top
  have h2 := h.las
  refine ⟨fun e => ?_, fun e => ?_, fun e => ?_, fun e => ?_, fun e => ?_, fun e => ?_⟩
  · subst e; rw [h1] at h2; injection h2 with h2; injection h2 with _ h2; cases h2
  · subst e; rw [h1] at hm; cases hm
  · subst e; rw [h2] at hm; cases hm
  · obtain ⟨cur, hcur⟩ := hc _ e; rw [h1] at hcur; injection hcur with hcur; injection hcur with _ hcur; cases hcur
  · obtain ⟨cur, hcur⟩ := hc _ e; rw [h2] at hcur; injection hcur with hcur; injection hcur with _ hcur; cases hcur
  · obtain ⟨cur, hcur⟩ := hc _ e; rw [hm] at hcur; cases hcur
/-- Only the disk's own cells are written. -/
theorem Dk.retop (h : Dk w base B lb bm cv d) {dark : Bool} {trip rd wr fl : Int} (hB : w'.heap[B]? = some (.cells (dkTop lb bm cv { d with dark := dark, trip := trip, rd := rd, wr := wr, fl := fl }) 164 (0, 0))) (hs : ∀ k, k ≠ B → w'.heap[k]? = w.heap[k]?) :
    Dk w' base B lb bm cv { d with dark := dark, trip := trip, rd := rd, wr := wr, fl := fl } := by
  obtain ⟨n1, n2, n3, n4, n5, n6⟩ := h.ne
  obtain ⟨D, h1, h2⟩ := h.seen
  exact ⟨hB, (hs lb (fun e => n1 e.symm)).trans h.las, by
    obtain ⟨k1, ⟨k0, k2⟩ | ⟨g, cap, cur, k0, k3, k4, k5⟩⟩ := h.cache
    · exact ⟨k1, .inl ⟨k0, k2⟩⟩
    · exact ⟨k1, .inr ⟨g, cap, cur, k0, k3, (hs g (fun e => n4 (by rw [k0, ← e]; rfl))).trans k4, k5⟩⟩,
    ⟨D, by obtain ⟨es, cl, e1, e2⟩ := h1; exact ⟨es, cl, (hs bm (fun e => n2 e.symm)).trans e1, e2⟩, h2⟩, h.ok, h.lo⟩
theorem Dk.cells (h : Dk w base B lb bm cv d) : w.cell? ⟨B, 0, none⟩ = some (.slice (some ⟨lb, 0, none⟩) d.ls.length d.ls.length) ∧ w.cell? ⟨B, 1, none⟩ = some cv ∧ w.cell? ⟨B, 2, none⟩ = some (.map (some bm)) ∧ w.cell? ⟨B, 3, none⟩ = some (.bool d.dark) ∧ w.cell? ⟨B, 4, none⟩ = some (.int .i64 d.trip) ∧
    w.cell? ⟨B, 5, none⟩ = some (.int .i64 d.rd) ∧ w.cell? ⟨B, 6, none⟩ = some (.int .i64 d.wr) ∧ w.cell? ⟨B, 7, none⟩ = some (.int .i64 d.fl) ∧ ∀ j, w.frozen? ⟨B, j, none⟩ = false :=
  ⟨(cell_of_row _ _ _ _ _ _ h.top).trans rfl, (cell_of_row _ _ _ _ _ _ h.top).trans rfl, (cell_of_row _ _ _ _ _ _ h.top).trans rfl, (cell_of_row _ _ _ _ _ _ h.top).trans rfl, (cell_of_row _ _ _ _ _ _ h.top).trans rfl, (cell_of_row _ _ _ _ _ _ h.top).trans rfl, (cell_of_row _ _ _ _ _ _ h.top).trans rfl, (cell_of_row _ _ _ _ _ _ h.top).trans rfl, fun _ => frozen_of_row _ _ _ _ _ h.top⟩
/-- A lasting sector's cells. -/
theorem Dk.sector (h : Dk w base B lb bm cv d) (a : Nat) (ha : a < d.ls.length) : w.rangeAt lb (a * 256) (sec d.ls[a]) := by
  intro j v hv
  have hl : (sec d.ls[a]).length = 256 := by rw [sec_len]; exact h.ok.1 _ (List.getElem_mem ha)
  have hj : j < 256 := by have := (List.getElem?_eq_some_iff.1 hv).1; omega
  rw [cell_of_row _ _ _ _ _ _ h.las]
  have := flat_get (g := sec) (m := 256) d.ls (fun s hs => by rw [sec_len]; exact h.ok.1 s hs) a j ha hj
  rw [hv] at this
  simpa using this
/-- A write's cells in the cache. -/
theorem Dk.write (h : Dk w base B lb bm cv d) {g cap : Nat} (hcv : cv = .slice (some ⟨g, 0, none⟩) d.cs.length cap) (k : Nat) (hk : k < d.cs.length) : w.rangeAt g (k * 257) (wcl d.cs[k]) := by
  intro j v hv
  have hl : (wcl d.cs[k]).length = 257 := by rw [wcl_len, (h.ok.2 _ (List.getElem_mem hk)).1]
  have hj : j < 257 := by have := (List.getElem?_eq_some_iff.1 hv).1; omega
  have hc := h.cache
  subst hcv
  rw [hc.cellAt (k * 257 + j) (by
    have : (k + 1) * 257 ≤ d.cs.length * 257 := Nat.mul_le_mul_right _ hk
    omega)]
  have := flat_get (g := wcl) (m := 257) d.cs (fun c hc => by rw [wcl_len, (h.ok.2 c hc).1]) k j hk hj
  rw [hv] at this
  exact this
end
end Go.Proofs.Ytnplcfgjidolbaa
end
