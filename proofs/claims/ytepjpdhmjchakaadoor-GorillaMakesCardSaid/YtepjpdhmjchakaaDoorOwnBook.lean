/- The book: bytes that came out are put in; at last each is its owner's. -/
import Derived.Test.YtepjpdhmjchakaaDoorOwnBytes
import Derived.Test.YtepjpdhmjchakaaDoorOwnNil
namespace Go.Proofs.YtepjpdhmjchakaaDoor
open Go.RowKit

/-- The book's cells. -/
def bookCells (vb : Value) : Array Value := #[vb, .slice none 0 0, .slice none 0 0, .slice none 0 0, .slice none 0 0, .slice none 0 0, .slice none 0 0, .slice none 0 0, .slice none 0 0, .slice none 0 0, .slice none 0 0, .slice none 0 0, .slice none 0 0, .slice none 0 0, .slice none 0 0, .slice none 0 0, .slice none 0 0, .slice none 0 0, .slice none 0 0, .slice none 0 0, .slice none 0 0, .slice none 0 0, .slice none 0 0, .slice none 0 0, .slice none 0 0, .slice none 0 0, .slice none 0 0, .slice none 0 0, .slice none 0 0, .slice none 0 0, .slice none 0 0, .slice none 0 0]
theorem book_cells {w : World} {B : Nat} {vb : Value} (h : w.heap[B]? = some (.cells (bookCells vb) 63 (0, 0))) :
    w.cell? ⟨B, 0, none⟩ = some (vb) ∧ w.cell? ⟨B, 1, none⟩ = some (.slice none 0 0) ∧ w.cell? ⟨B, 2, none⟩ = some (.slice none 0 0) ∧ w.cell? ⟨B, 3, none⟩ = some (.slice none 0 0) ∧ w.cell? ⟨B, 4, none⟩ = some (.slice none 0 0) ∧ w.cell? ⟨B, 5, none⟩ = some (.slice none 0 0) ∧ w.cell? ⟨B, 6, none⟩ = some (.slice none 0 0) ∧ w.cell? ⟨B, 7, none⟩ = some (.slice none 0 0) ∧ w.cell? ⟨B, 8, none⟩ = some (.slice none 0 0) ∧ w.cell? ⟨B, 9, none⟩ = some (.slice none 0 0) ∧ w.cell? ⟨B, 10, none⟩ = some (.slice none 0 0) ∧ w.cell? ⟨B, 11, none⟩ = some (.slice none 0 0) ∧ w.cell? ⟨B, 12, none⟩ = some (.slice none 0 0) ∧ w.cell? ⟨B, 13, none⟩ = some (.slice none 0 0) ∧ w.cell? ⟨B, 14, none⟩ = some (.slice none 0 0) ∧ w.cell? ⟨B, 15, none⟩ = some (.slice none 0 0) ∧ w.cell? ⟨B, 16, none⟩ = some (.slice none 0 0) ∧ w.cell? ⟨B, 17, none⟩ = some (.slice none 0 0) ∧ w.cell? ⟨B, 18, none⟩ = some (.slice none 0 0) ∧ w.cell? ⟨B, 19, none⟩ = some (.slice none 0 0) ∧ w.cell? ⟨B, 20, none⟩ = some (.slice none 0 0) ∧ w.cell? ⟨B, 21, none⟩ = some (.slice none 0 0) ∧ w.cell? ⟨B, 22, none⟩ = some (.slice none 0 0) ∧ w.cell? ⟨B, 23, none⟩ = some (.slice none 0 0) ∧ w.cell? ⟨B, 24, none⟩ = some (.slice none 0 0) ∧ w.cell? ⟨B, 25, none⟩ = some (.slice none 0 0) ∧ w.cell? ⟨B, 26, none⟩ = some (.slice none 0 0) ∧ w.cell? ⟨B, 27, none⟩ = some (.slice none 0 0) ∧ w.cell? ⟨B, 28, none⟩ = some (.slice none 0 0) ∧ w.cell? ⟨B, 29, none⟩ = some (.slice none 0 0) ∧ w.cell? ⟨B, 30, none⟩ = some (.slice none 0 0) ∧ w.cell? ⟨B, 31, none⟩ = some (.slice none 0 0) :=
  ⟨(cell_of_row _ _ _ _ _ _ h).trans rfl, (cell_of_row _ _ _ _ _ _ h).trans rfl, (cell_of_row _ _ _ _ _ _ h).trans rfl, (cell_of_row _ _ _ _ _ _ h).trans rfl, (cell_of_row _ _ _ _ _ _ h).trans rfl, (cell_of_row _ _ _ _ _ _ h).trans rfl, (cell_of_row _ _ _ _ _ _ h).trans rfl, (cell_of_row _ _ _ _ _ _ h).trans rfl, (cell_of_row _ _ _ _ _ _ h).trans rfl, (cell_of_row _ _ _ _ _ _ h).trans rfl, (cell_of_row _ _ _ _ _ _ h).trans rfl, (cell_of_row _ _ _ _ _ _ h).trans rfl, (cell_of_row _ _ _ _ _ _ h).trans rfl, (cell_of_row _ _ _ _ _ _ h).trans rfl, (cell_of_row _ _ _ _ _ _ h).trans rfl, (cell_of_row _ _ _ _ _ _ h).trans rfl, (cell_of_row _ _ _ _ _ _ h).trans rfl, (cell_of_row _ _ _ _ _ _ h).trans rfl, (cell_of_row _ _ _ _ _ _ h).trans rfl, (cell_of_row _ _ _ _ _ _ h).trans rfl, (cell_of_row _ _ _ _ _ _ h).trans rfl, (cell_of_row _ _ _ _ _ _ h).trans rfl, (cell_of_row _ _ _ _ _ _ h).trans rfl, (cell_of_row _ _ _ _ _ _ h).trans rfl, (cell_of_row _ _ _ _ _ _ h).trans rfl, (cell_of_row _ _ _ _ _ _ h).trans rfl, (cell_of_row _ _ _ _ _ _ h).trans rfl, (cell_of_row _ _ _ _ _ _ h).trans rfl, (cell_of_row _ _ _ _ _ _ h).trans rfl, (cell_of_row _ _ _ _ _ _ h).trans rfl, (cell_of_row _ _ _ _ _ _ h).trans rfl, (cell_of_row _ _ _ _ _ _ h).trans rfl⟩

theorem Bk.start {E e : TypeId} {w : World} {base : Nat} {vb : Value} {vs : List Value} {ln : Nat → Nat} (h1 : w.ownsRow base E 1 vb vs.length vs) (h2 : ∀ (j : Nat) (v : Value), vs[j]? = some v → ∃ xs, w.ownsRow base e 1 v (ln j) xs) :
    Bk E e w w base vb vs ln (fun _ _ => True) :=
  ⟨h1, fun j v hv => by obtain ⟨xs, h⟩ := h2 j v hv; exact ⟨xs, h, trivial⟩, Oth.refl _ _, fun k hk => (h1.lt k hk).2, fun j v hv k hk => by obtain ⟨xs, h⟩ := h2 j v hv; exact (h.lt k hk).2⟩
theorem Bk.nil (E e : TypeId) (w : World) (base : Nat) (ln : Nat → Nat) : Bk E e w w base (.slice none 0 0) [] ln (fun _ _ => True) :=
  Bk.start (World.ownsRow_nil _ _ _ _) (fun j v h => by simp at h)
/-- What rows of another type leave as it was. -/
theorem Bk.keeps {E e : TypeId} {w w1 : World} {base : Nat} {vb : Value} {vs : List Value} {ln : Nat → Nat} {F : Nat → List Value → Prop} (h : Bk E e w w base vb vs ln F) (o : Oth vs w w1) {base' : Nat} {e' : TypeId} {s : Nat} {v : Value} {n : Nat} {xs : List Value} (hv : w.ownsRow base' e' s v n xs) (hne : e' ≠ e) : w1.ownsRow base' e' s v n xs :=
  own_of_same hv (fun k hk => o.block k (hv.lt k hk).2 (fun u hu e1 => by
    obtain ⟨j, hj⟩ := List.getElem?_of_mem hu
    obtain ⟨ys, h1, _⟩ := h.rows j u hj
    exact own_apart hv h1 hne k hk e1))
theorem Bk.block {E e : TypeId} {w w1 : World} {base : Nat} {vb : Value} {vs : List Value} {ln : Nat → Nat} {F : Nat → List Value → Prop} (h : Bk E e w w base vb vs ln F) (o : Oth vs w w1) {B : Nat} {cs : Array Value} {e' : TypeId} (hB : w.heap[B]? = some (.cells cs e' (0, 0))) (hne : e' ≠ e) : w1.heap[B]? = some (.cells cs e' (0, 0)) := by
  have hl : B < w.heap.size := by
    rcases Nat.lt_or_ge B w.heap.size with h2 | h2
    · exact h2
    · rw [Array.getElem?_eq_none h2] at hB; cases hB
  rw [o.block B hl (fun u hu e1 => ?_)]
  · exact hB
  · obtain ⟨j, hj⟩ := List.getElem?_of_mem hu
    obtain ⟨ys, h1, _⟩ := h.rows j u hj
    obtain ⟨_, ⟨rfl, _⟩ | ⟨g, c, cur, rfl, _, hh, _⟩⟩ := h1
    · cases e1
    · have e2 : g = B := by injection e1
      rw [e2, hB] at hh
      injection hh with hh
      injection hh with _ hh
      exact hne hh

/-- A book at block B: lists of bytes. -/
structure Book (w : World) (base B : Nat) (vb : Value) (vs : List Value) (ln : Nat → Nat) : Prop where
  cell : w.heap[B]? = some (.cells (bookCells vb) 63 (0, 0))
  bytes : Bk 71 5 w w base vb vs ln (fun _ _ => True)
  apt : Apt vs

theorem Bk.low {E e : TypeId} {w : World} {base : Nat} {vb : Value} {vs : List Value} {ln : Nat → Nat} {F : Nat → List Value → Prop} (h : Bk E e w w base vb vs ln F) : ∀ v ∈ vs, ∀ k, v.ownBlock = some k → base ≤ k := by
  intro v hv k hk
  obtain ⟨j, hj⟩ := List.getElem?_of_mem hv
  obtain ⟨ys, h1, _⟩ := h.rows j v hj
  exact (h1.lt k hk).1

set_option maxHeartbeats 4000000 in
set_option maxRecDepth 100000 in
theorem own_any (w : World) (base B : Nat) (vb : Value) (vs : List Value) (ln : Nat → Nat) (h : Book w base B vb vs ln) (hln : ∀ j, ln j ≤ 1099511627776) (hN : vs.length ≤ 1000000000) (hb : base ≤ w.heap.size) :
    Calls Tryd.prog 15 #[.pointer (some ⟨B, 0, none⟩)] w fun e w' => e = .returned (.bool true) ∧ Below base w w' := by
  have HB := Lib.hid h
  obtain ⟨c0, -, -, -, -, -, -, -, -, -, -, -, -, -, -, -, -, -, -, -, -, -, -, -, -, -, -, -, -, -, -, -⟩ := book_cells h.cell
  have HC := Lib.hid (ownBytes_any w base vb vs ln h.bytes h.apt hln hN hb)
  obtain ⟨ab, cb, rfl⟩ := own_slice h.bytes.row
  clear h
  go_enter Tryd.func15, Tryd.ntmps15
  go_wp2_with (first
    | (go_at_call 34; refine Calls.mono HC.out ?_; rintro e w1 ⟨rfl, ho1⟩; have hcell1 := HB.out.bytes.block ho1 HB.out.cell (by decide); obtain ⟨-, p1, p2, p3, p4, p5, p6, p7, p8, p9, p10, p11, p12, p13, p14, p15, p16, p17, p18, p19, p20, p21, p22, p23, p24, p25, p26, p27, p28, p29, -, -⟩ := book_cells hcell1; clear c0; have HO1 := Lib.hid ho1; have HCell1 := Lib.hid hcell1; clear ho1 hcell1)
    | (go_at_call 35; refine (nil_Texts _).mono ?_; rintro e wx ⟨rfl, rfl⟩)
    | (go_at_call 36; refine (nil_Ints _).mono ?_; rintro e wx ⟨rfl, rfl⟩)
    | (go_at_call 37; refine (nil_Longs _).mono ?_; rintro e wx ⟨rfl, rfl⟩)
    | (go_at_call 38; refine (nil_Numbers _).mono ?_; rintro e wx ⟨rfl, rfl⟩)
    | (go_at_call 39; refine (nil_Nums _).mono ?_; rintro e wx ⟨rfl, rfl⟩)
    | (go_at_call 40; refine (nil_Words _).mono ?_; rintro e wx ⟨rfl, rfl⟩)
    | (go_at_call 41; refine (nil_Types _).mono ?_; rintro e wx ⟨rfl, rfl⟩)
    | (go_at_call 42; refine (nil_Errs _).mono ?_; rintro e wx ⟨rfl, rfl⟩)
    | (go_at_call 43; refine (nil_Labels _).mono ?_; rintro e wx ⟨rfl, rfl⟩)
    | (go_at_call 44; refine (nil_Samples _).mono ?_; rintro e wx ⟨rfl, rfl⟩)
    | (go_at_call 45; refine (nil_Matchers _).mono ?_; rintro e wx ⟨rfl, rfl⟩)
    | (go_at_call 46; refine (nil_Intervals _).mono ?_; rintro e wx ⟨rfl, rfl⟩)
    | (go_at_call 47; refine (nil_Places _).mono ?_; rintro e wx ⟨rfl, rfl⟩)
    | (go_at_call 48; refine (nil_Metas _).mono ?_; rintro e wx ⟨rfl, rfl⟩)
    | (go_at_call 49; refine (nil_Files _).mono ?_; rintro e wx ⟨rfl, rfl⟩)
    | (go_at_call 50; refine (nil_Tokens _).mono ?_; rintro e wx ⟨rfl, rfl⟩)
    | (go_at_call 51; refine (nil_Sets _).mono ?_; rintro e wx ⟨rfl, rfl⟩)
    | (go_at_call 52; refine (nil_Rows _).mono ?_; rintro e wx ⟨rfl, rfl⟩)
    | (go_at_call 53; refine (nil_Lists _).mono ?_; rintro e wx ⟨rfl, rfl⟩)
    | (go_at_call 54; refine (nil_IntLists _).mono ?_; rintro e wx ⟨rfl, rfl⟩)
    | (go_at_call 55; refine (nil_Elems _).mono ?_; rintro e wx ⟨rfl, rfl⟩)
    | (go_at_call 56; refine (nil_Series _).mono ?_; rintro e wx ⟨rfl, rfl⟩)
    | (go_at_call 57; refine (nil_Puts _).mono ?_; rintro e wx ⟨rfl, rfl⟩)
    | (go_at_call 58; refine (nil_Lasts _).mono ?_; rintro e wx ⟨rfl, rfl⟩)
    | (go_at_call 59; refine (nil_Tombs _).mono ?_; rintro e wx ⟨rfl, rfl⟩)
    | (go_at_call 60; refine (nil_Chunks _).mono ?_; rintro e wx ⟨rfl, rfl⟩)
    | (go_at_call 61; refine (nil_Entries _).mono ?_; rintro e wx ⟨rfl, rfl⟩)
    | (go_at_call 62; refine (nil_Mutations _).mono ?_; rintro e wx ⟨rfl, rfl⟩)
    | (go_at_call 63; refine (nil_Bools _).mono ?_; rintro e w3 ⟨rfl, hb3⟩; have hcell3 := (hb3.block B (block_lt_of_cell p1)).trans HCell1.out; obtain ⟨-, -, -, -, -, -, -, -, -, -, -, -, -, -, -, -, -, -, -, -, -, -, -, -, -, -, -, -, -, r29, r30, r31⟩ := book_cells hcell3; have HB3 := Lib.hid hb3; clear hb3 hcell3)
    | (go_at_call 64; refine (nil_Nodes _).mono ?_; rintro e wx ⟨rfl, rfl⟩)
    | (go_at_call 65; refine (nil_Jsons _).mono ?_; rintro e wx ⟨rfl, rfl⟩))
  go_ret
  have hs1 := HO1.out.size
  exact ⟨rfl, (HO1.out.below hb HB.out.bytes.low).trans (HB3.out.mono (by omega))⟩
end Go.Proofs.YtepjpdhmjchakaaDoor
