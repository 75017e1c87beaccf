/- BitsPuts: the walk. -/
import Derived.Test.YtnplcfgjidolbaaBookPut
import Derived.Test.YtnplcfgjidolbaaRow
namespace Go.Proofs.Ytnplcfgjidolbaa.bitsPuts
open Go.RowKit bitsBack

theorem vs_of {hi : Nat} {w : World} {ao : Option Addr} {cap : Nat} {l : List Opv} (h : Ops hi w ao cap l) : ∀ o ∈ l, o.v < 18446744073709551616 ∧ o.k < 256 := by
  intro o ho
  obtain ⟨b, off, _, _, hc⟩ := h.cells (by intro e; subst e; simp at ho)
  obtain ⟨j, hj, rfl⟩ := List.getElem_of_mem ho
  exact ⟨(hc j hj).v, (hc j hj).k⟩

/-- Both writers and the book, behind some calls. -/
structure Ps (w0 wr : World) (B Bx Bk : Nat) (L : List Bool) (m : Nat) (r rx : Option Nat) (vb : Value) (vs : List Value) (ln : Nat → Nat) : Prop where
  tw : Tw wr B Bx r rx L L
  book : Book wr w0.heap.size Bk vb vs ln (.slice none 0 0) [] (fun _ => 0)
  ln : ∀ j, ln j ≤ 1099511627776
  len : vs.length ≤ m
  apart : ∀ v ∈ vs, ∀ b, v.ownBlock = some b → r ≠ some b ∧ rx ≠ some b
  lo : ∀ q, r = some q → w0.heap.size ≤ q
  lox : ∀ q, rx = some q → w0.heap.size ≤ q
  loB : w0.heap.size ≤ B ∧ w0.heap.size ≤ Bx ∧ w0.heap.size ≤ Bk
  below : Below w0.heap.size w0 wr

theorem row_of {w : World} {B : Nat} {r : Option Nat} {L : List Bool} (h : Wr w B r L) : ∃ v n xs, w.ownsRow 0 5 1 v n xs ∧ v.ownBlock = r := by
  obtain ⟨⟨v, _, h1, h2⟩, _⟩ := h; exact ⟨v, _, _, h1, h2⟩
theorem xrow_of {w : World} {B : Nat} {r : Option Nat} {L : List Bool} (h : Xr w B r L) : ∃ v n xs, w.ownsRow 0 5 1 v n xs ∧ v.ownBlock = r := by
  obtain ⟨⟨v, _, h1, h2⟩, _⟩ := h; exact ⟨v, _, _, h1, h2⟩
theorem cellB {w : World} {B : Nat} {r : Option Nat} {L : List Bool} (h : Wr w B r L) : ∃ cs, w.heap[B]? = some (.cells cs 127 (0, 0)) := by
  obtain ⟨⟨v, h1, _⟩, _⟩ := h; exact ⟨_, h1⟩
theorem cellX {w : World} {B : Nat} {r : Option Nat} {L : List Bool} (h : Xr w B r L) : ∃ cs, w.heap[B]? = some (.cells cs 41 (0, 0)) := by
  obtain ⟨⟨v, h1, _⟩, _⟩ := h; exact ⟨_, h1⟩

/-- A book is not touched by what turns both writers. -/
theorem Book.gr2 {w w' : World} {base B Bx Bk : Nat} {r rx : Option Nat} {L Lx : List Bool} {vb vi : Value} {vs us : List Value} {ln lm : Nat → Nat} (h : Book w base Bk vb vs ln vi us lm) (t : Tw w B Bx r rx L Lx) (g : Gr2 B Bx r rx w w')
    (ha : ∀ v ∈ vs, ∀ b, v.ownBlock = some b → r ≠ some b ∧ rx ≠ some b) : Book w' base Bk vb vs ln vi us lm := by
  obtain ⟨cb, hcb⟩ := cellB t.a
  obtain ⟨cx, hcx⟩ := cellX t.b
  obtain ⟨rv, rn, rxs, hr, hre⟩ := row_of t.a
  obtain ⟨qv, qn, qxs, hq, hqe⟩ := xrow_of t.b
  have key : ∀ {e : TypeId} {u : Value} {m : Nat} {zs : List Value}, w.ownsRow base e 1 u m zs → e ≠ 127 → e ≠ 41 → (∀ b, u.ownBlock = some b → r ≠ some b ∧ rx ≠ some b) → w'.ownsRow base e 1 u m zs := by
    intro e u m zs hu h1 h2 h3
    exact own_of_same hu (fun k hk => g.block k (hu.lt k hk).2 (fun e1 => own_block_ne hu hcb h1 (by rw [hk, e1])) (fun e1 => own_block_ne hu hcx h2 (by rw [hk, e1])) (fun e1 => (h3 k hk).1 e1.symm) (fun e1 => (h3 k hk).2 e1.symm))
  have far : ∀ {e : TypeId} {u : Value} {m : Nat} {zs : List Value}, w.ownsRow base e 1 u m zs → e ≠ 5 → (∀ b, u.ownBlock = some b → r ≠ some b ∧ rx ≠ some b) := by
    intro e u m zs hu h1 b hb
    exact ⟨fun e1 => own_apart hu hr h1 b hb (hre.trans e1), fun e1 => own_apart hu hq h1 b hb (hqe.trans e1)⟩
  have hne : ∀ {t : TypeId} {cs : Array Value}, w.heap[Bk]? = some (.cells cs t (0, 0)) → t ≠ 76 → False := fun h1 h2 => by
    rw [h.cell] at h1
    injection h1 with h1
    injection h1 with _ h1
    exact h2 h1.symm
  refine ⟨?_, ?_, ?_, h.apt, h.apti⟩
  · rw [g.block Bk (heap_lt h.cell) (fun e1 => by subst e1; exact hne hcb (by decide)) (fun e1 => by subst e1; exact hne hcx (by decide))
      (fun e1 => own_block_ne hr h.cell (by decide) (hre.trans e1.symm)) (fun e1 => own_block_ne hq h.cell (by decide) (hqe.trans e1.symm))]
    exact h.cell
  · exact Go.Proofs.Ytnplcfgjidolbaa.Bk.start (key h.bytes.row (by decide) (by decide) (far h.bytes.row (by decide))) (fun j v hv => by
      obtain ⟨xs, hx, _⟩ := h.bytes.rows j v hv
      exact ⟨xs, key hx (by decide) (by decide) (ha v (List.mem_of_getElem? hv))⟩)
  · exact Go.Proofs.Ytnplcfgjidolbaa.Bk.start (key h.ints.row (by decide) (by decide) (far h.ints.row (by decide))) (fun j v hv => by
      obtain ⟨xs, hx, _⟩ := h.ints.rows j v hv
      exact ⟨xs, key hx (by decide) (by decide) (far hx (by decide))⟩)
theorem Book.below {w w' : World} {base Bk : Nat} {vb vi : Value} {vs us : List Value} {ln lm : Nat → Nat} (h : Book w base Bk vb vs ln vi us lm) (b : Below w.heap.size w w') : Book w' base Bk vb vs ln vi us lm := by
  have key : ∀ {e : TypeId} {u : Value} {m : Nat} {zs : List Value}, w.ownsRow base e 1 u m zs → w'.ownsRow base e 1 u m zs := fun hu => own_of_same hu (fun k hk => b.block k (hu.lt k hk).2)
  exact ⟨(b.block Bk (heap_lt h.cell)).trans h.cell, Go.Proofs.Ytnplcfgjidolbaa.Bk.start (key h.bytes.row) (fun j v hv => by obtain ⟨xs, hx, _⟩ := h.bytes.rows j v hv; exact ⟨xs, key hx⟩),
    Go.Proofs.Ytnplcfgjidolbaa.Bk.start (key h.ints.row) (fun j v hv => by obtain ⟨xs, hx, _⟩ := h.ints.rows j v hv; exact ⟨xs, key hx⟩), h.apt, h.apti⟩

section
variable {w0 wr w' : World} {B Bx Bk m : Nat} {L : List Bool} {r rx : Option Nat} {vb : Value} {vs : List Value} {ln : Nat → Nat}
theorem Ps.below' (h : Ps w0 wr B Bx Bk L m r rx vb vs ln) (b : Below wr.heap.size wr w') : Ps w0 w' B Bx Bk L m r rx vb vs ln :=
  ⟨h.tw.below b, Book.below h.book b, h.ln, h.len, h.apart, h.lo, h.lox, h.loB, h.below.trans (b.mono h.below.size)⟩
theorem Ps.mono (h : Ps w0 wr B Bx Bk L m r rx vb vs ln) {m' : Nat} (hm : m ≤ m') : Ps w0 wr B Bx Bk L m' r rx vb vs ln :=
  ⟨h.tw, h.book, h.ln, Nat.le_trans h.len hm, h.apart, h.lo, h.lox, h.loB, h.below⟩
theorem Ps.puts (h : Ps w0 wr B Bx Bk L m r rx vb vs ln) {L' : List Bool} {e : Ending} (hp : Puts wr B Bx r rx L' e w') : e = .returned (.bool true) ∧ ∃ r' rx', Ps w0 w' B Bx Bk L' m r' rx' vb vs ln := by
  obtain ⟨he, r', rx', ht, hg, ha, hax⟩ := hp
  refine ⟨he, r', rx', ht, Book.gr2 h.book h.tw hg h.apart, h.ln, h.len, fun v hv b hb => ?_, fun q hq => ?_, fun q hq => ?_, h.loB, h.below.trans ⟨hg.os, hg.tape, hg.output, hg.size, fun k hk => ?_⟩⟩
  · obtain ⟨j, hj⟩ := List.getElem?_of_mem hv
    obtain ⟨xs, hx, _⟩ := h.book.bytes.rows j v hj
    have hbl := (hx.lt b hb).2
    refine ⟨fun e1 => ?_, fun e1 => ?_⟩
    · rcases ha b e1 with e2 | e2
      · exact (h.apart v hv b hb).1 e2
      · omega
    · rcases hax b e1 with e2 | e2
      · exact (h.apart v hv b hb).2 e2
      · omega
  · rcases ha q hq with e2 | e2
    · exact h.lo q e2
    · have := h.below.size; omega
  · rcases hax q hq with e2 | e2
    · exact h.lox q e2
    · have := h.below.size; omega
  · have hs := h.below.size
    obtain ⟨b1, b2, _⟩ := h.loB
    exact hg.block k (by omega) (by omega) (by omega) (fun e1 => by have := h.lo k e1.symm; omega) (fun e1 => by have := h.lox k e1.symm; omega)
/-- A list of the writer's, put into the book. -/
theorem Ps.put (h : Ps w0 wr B Bx Bk L m r rx vb vs ln) {v vb' : Value} {n : Nat} (hn : n ≤ 1099511627776) (hv : ∀ b, v.ownBlock = some b → r ≠ some b ∧ rx ≠ some b) (hb : Book w' w0.heap.size Bk vb' (vs ++ [v]) (fun j => if j = vs.length then n else ln j) (.slice none 0 0) [] (fun _ => 0))
    (hg : Gro Bk vb.ownBlock wr w') : Ps w0 w' B Bx Bk L (m + 1) r rx vb' (vs ++ [v]) (fun j => if j = vs.length then n else ln j) := by
  obtain ⟨cb, hcb⟩ := cellB h.tw.a
  obtain ⟨cx, hcx⟩ := cellX h.tw.b
  obtain ⟨rv, rn, rxs, hr, hre⟩ := row_of h.tw.a
  obtain ⟨qv, qn, qxs, hq, hqe⟩ := xrow_of h.tw.b
  have hne : ∀ {t : TypeId} {cs : Array Value} {b : Nat}, wr.heap[b]? = some (.cells cs t (0, 0)) → t ≠ 76 → b ≠ Bk := fun h1 h2 e1 => by
    subst e1
    rw [h.book.cell] at h1
    injection h1 with h1
    injection h1 with _ h1
    exact h2 h1.symm
  have hvb : ∀ {t : TypeId} {cs : Array Value} {b : Nat}, wr.heap[b]? = some (.cells cs t (0, 0)) → 22 ≠ t → vb.ownBlock ≠ some b := fun h1 h2 => own_block_ne h.book.bytes.row h1 h2
  have hrk : r ≠ some Bk := fun e1 => own_block_ne hr h.book.cell (by decide) (hre.trans e1)
  have hqk : rx ≠ some Bk := fun e1 => own_block_ne hq h.book.cell (by decide) (hqe.trans e1)
  have hrv : ∀ k, vb.ownBlock = some k → r ≠ some k := fun k hk e1 => own_apart h.book.bytes.row hr (by decide) k hk (hre.trans e1)
  have hqv : ∀ k, vb.ownBlock = some k → rx ≠ some k := fun k hk e1 => own_apart h.book.bytes.row hq (by decide) k hk (hqe.trans e1)
  refine ⟨⟨h.tw.a.keep hg (hne hcb (by decide)) (hvb hcb (by decide)) hrk hrv, h.tw.b.keep hg (hne hcx (by decide)) (hvb hcx (by decide)) hqk hqv, h.tw.n1, h.tw.n2, h.tw.n3, h.tw.n4⟩, hb, fun j => ?_, by simp; exact h.len, fun u hu b hbb => ?_, h.lo, h.lox, h.loB, h.below.trans (hg.below h.below.size h.loB.2.2 (fun k hk => (h.book.bytes.row.lt k hk).1))⟩
  · split
    · exact hn
    · exact h.ln j
  · rcases List.mem_append.1 hu with hu | hu
    · exact h.apart u hu b hbb
    · simp at hu
      subst hu
      exact hv b hbb
end

theorem own_mono {w : World} {base base' : Nat} {e : TypeId} {size : Nat} {v : Value} {n : Nat} {xs : List Value} (h : w.ownsRow base e size v n xs) (hb : base' ≤ base) : w.ownsRow base' e size v n xs := by
  obtain ⟨h1, h | ⟨g, c, cur, h2, h3, h4⟩⟩ := h
  · exact ⟨h1, .inl h⟩
  · exact ⟨h1, .inr ⟨g, c, cur, h2, Nat.le_trans hb h3, h4⟩⟩
theorem drew_below (w : World) (B : Nat) : Below B w w.drew := ⟨rfl, rfl, rfl, Nat.le_refl _, fun _ _ => rfl⟩
theorem drewN_below (w : World) (B n : Nat) : Below B w (w.drewN n) := below_drewN (Below.refl _ _) n

section
variable {w0 wr : World} {B Bx Bk m : Nat} {L : List Bool} {r rx : Option Nat} {vb : Value} {vs : List Value} {ln : Nat → Nat}
/-- The writer's bytes, as they come out. -/
def Out (w0 w' : World) (B Bx Bk : Nat) (L : List Bool) (m : Nat) (v : Value) : Prop :=
  ∃ r rx vb vs ln, Ps w0 w' B Bx Bk L m r rx vb vs ln ∧ w'.ownsRow w0.heap.size 5 1 v (Bt.pack L).length ((Bt.pack L).map f8) ∧ (∀ b, v.ownBlock = some b → r ≠ some b ∧ rx ≠ some b) ∧ ∀ u ∈ vs, ∀ b, u.ownBlock = some b → v.ownBlock ≠ some b
theorem bytes_ps (h : Ps w0 wr B Bx Bk L m r rx vb vs ln) (hL : L.length < 1099511627776) : Calls Try.prog 17 #[.pointer (some ⟨B, 0, none⟩)] wr fun e w' => ∃ v, e = .returned v ∧ Out w0 w' B Bx Bk L m v := by
  refine (bytes_any wr B r L h.tw.a hL).mono ?_
  rintro e w' ⟨v, rfl, hown, hb⟩
  refine ⟨v, rfl, r, rx, vb, vs, ln, h.below' hb, own_mono hown h.below.size, fun b hbb => ⟨fun e1 => ?_, fun e1 => ?_⟩, fun u hu b hbb e1 => ?_⟩
  · have := h.tw.a.lt.2 b e1; have := (hown.lt b hbb).1; omega
  · have := h.tw.b.lt.2 b e1; have := (hown.lt b hbb).1; omega
  · obtain ⟨j, hj⟩ := List.getElem?_of_mem hu
    obtain ⟨xs, hx, _⟩ := h.book.bytes.rows j u hj
    have := (hx.lt b hbb).2
    have := (hown.lt b e1).1
    omega
/-- Put into the book. -/
def In (w0 w' : World) (B Bx Bk : Nat) (L : List Bool) (m : Nat) (v : Value) : Prop :=
  ∃ r rx vb vs ln, Ps w0 w' B Bx Bk L m r rx vb vs ln ∧ w'.ownsRow w0.heap.size 5 1 v (Bt.pack L).length ((Bt.pack L).map f8)
theorem book_ps {v : Value} (h : Out w0 wr B Bx Bk L m v) (hm : m < 1000000000) (hL : L.length < 1099511627776) : Calls Try.prog 20 #[.pointer (some ⟨Bk, 0, none⟩), v] wr fun e w' => e = .returned (.tuple #[]) ∧ In w0 w' B Bx Bk L (m + 1) v := by
  obtain ⟨r, rx, vb, vs, ln, h, hown, ha, hfr⟩ := h
  refine (bookBytes_any wr w0.heap.size Bk vb vs ln _ _ _ v _ _ h.book hown hfr (by have := h.len; omega) h.below.size).mono ?_
  rintro e w' ⟨rfl, vb', hbk, hg, _⟩
  refine ⟨rfl, r, rx, vb', _, _, h.put (by have := Bt.pack_len L; omega) ha hbk hg, hg.kept hown (own_block_ne hown h.book.cell (by decide)) (fun k hk e1 => own_apart hown h.book.bytes.row (by decide) k e1 hk)⟩
/-- The document's bytes are the same. -/
theorem xbytes_ps {v : Value} (h : In w0 wr B Bx Bk L m v) (hL : L.length < 1099511627776) : Calls Try.prog 21 #[.pointer (some ⟨Bx, 0, none⟩)] wr fun e w' => ∃ v', e = .returned v' ∧ In w0 w' B Bx Bk L m v ∧ Sl 0 w'.heap.size f8 w' v (Bt.pack L) ∧ Sl 0 w'.heap.size f8 w' v' (Bt.pack L) := by
  obtain ⟨r, rx, vb, vs, ln, h, hown⟩ := h
  have hpl := Bt.pack_len L
  refine (xbytes_any wr Bx rx L h.tw.b hL).mono ?_
  rintro e w' ⟨v', rfl, hown', hb⟩
  have h2 := own_of_same hown (fun k hk => hb.block k (hown.lt k hk).2)
  exact ⟨v', rfl, ⟨r, rx, vb, vs, ln, h.below' hb, h2⟩, Sl.mono (Sl.owns h2 (by omega)) (Nat.zero_le _) (Nat.le_refl _), Sl.mono (Sl.owns hown' (by omega)) (Nat.zero_le _) (Nat.le_refl _)⟩
end

/-- The start. -/
theorem ps_start {w w2 : World} (hW : Wr w2 w.heap.size none []) (hb : Below w.heap.size w w2) (hs : w.heap.size < w2.heap.size) :
    Ps w ((w2.alloc (.cells #[.slice none 0 0, .int .i64 0] 41)).alloc (.cells (bookCells (.slice none 0 0) (.slice none 0 0)) 76)) w.heap.size w2.heap.size (w2.heap.size + 1) [] 0 none none (.slice none 0 0) [] (fun _ => 0) := by
  have b1 : Below w2.heap.size w2 (w2.alloc (.cells #[.slice none 0 0, .int .i64 0] 41)) := (Below.refl _ _).alloc (Nat.le_refl _) _
  have b2 : Below (w2.alloc (.cells #[.slice none 0 0, .int .i64 0] 41)).heap.size (w2.alloc (.cells #[.slice none 0 0, .int .i64 0] 41)) ((w2.alloc (.cells #[.slice none 0 0, .int .i64 0] 41)).alloc (.cells (bookCells (.slice none 0 0) (.slice none 0 0)) 76)) := (Below.refl _ _).alloc (Nat.le_refl _) _
  have e2 : (w2.alloc (.cells #[.slice none 0 0, .int .i64 0] 41)).heap.size = w2.heap.size + 1 := by simp
  refine ⟨⟨(hW.below b1 (Nat.le_refl _)).below b2 (Nat.le_refl _), (new_xr w2).below b2, by omega, by simp, by simp, by simp⟩, ⟨?_, Bk.nil _ _ _ _ _, Bk.nil _ _ _ _ _, by intro i j u v h; simp at h, by intro i j u v h; simp at h⟩, fun _ => by omega, by simp, by simp, by simp, by simp, ⟨Nat.le_refl _, by omega, by omega⟩, hb.trans ((b1.trans (b2.mono (by simp))).mono hb.size)⟩
  rw [← e2]
  exact heap_alloc_new _ _
end Go.Proofs.Ytnplcfgjidolbaa.bitsPuts
