/- A disk, the reference's, and the book, side by side: what each leaves of the others. The operations, side by side, as contracts on the pair. An act of both disks: a read. -/
import Derived.Test.YtnplcfgjidolbaaDm16
import Derived.Deep.RegionHeld3
section
namespace Go.Proofs.Ytnplcfgjidolbaa
open Go.RowKit Go.Maps

theorem RD.keep {w w' : World} {base B av : Nat} {lv cv : Value} {d : Dsk} (h : RD w base B av lv cv d) (hs : ∀ (k : Nat) cs t, w.heap[k]? = some (.cells cs t (0, 0)) → (t = 176 ∨ (t = 22 ∧ lv.ownBlock = some k) ∨ t = 256 ∨ (t = 5 ∧ k ≠ av)) → w'.heap[k]? = w.heap[k]?) : RD w' base B av lv cv d := by
  have key : ∀ {e : TypeId} {s : Nat} {v : Value} {n : Nat} {xs : List Value}, w.ownsRow base e s v n xs → ((e = 22 ∧ v = lv) ∨ e = 256 ∨ (e = 5 ∧ v.ownBlock ≠ some av)) → w'.ownsRow base e s v n xs := fun hv he =>
    own_of_same hv (fun k hk => by
      obtain ⟨cs, hc⟩ := own_block hv k hk
      refine hs k cs _ hc ?_
      rcases he with ⟨e, e2⟩ | e | ⟨e, hne⟩
      · exact .inr (.inl ⟨e, by rw [← e2]; exact hk⟩)
      · exact .inr (.inr (.inl e))
      · exact .inr (.inr (.inr ⟨e, fun e2 => hne (by rw [hk, e2])⟩)))
  obtain ⟨vs, h1, h2⟩ := h.las
  obtain ⟨us, h3, h4, h5⟩ := h.cache
  exact ⟨(hs B _ _ h.top (.inl rfl)).trans h.top, ⟨vs, key h1 (.inl ⟨rfl, rfl⟩), fun i u s hu hss => ⟨key (h2 i u s hu hss).1 (.inr (.inr ⟨rfl, (h2 i u s hu hss).2⟩)), (h2 i u s hu hss).2⟩⟩,
    ⟨us, h3, key h4 (.inr (.inl rfl)), fun i u c hu hc => ⟨key (h5 i u c hu hc).1 (.inr (.inr ⟨rfl, (h5 i u c hu hc).2⟩)), (h5 i u c hu hc).2⟩⟩, h.ok, h.lo⟩

theorem Dk.keep {w w' : World} {base B lb bm : Nat} {cv : Value} {d : Dsk} (h : Dk w base B lb bm cv d) (hs : ∀ (k : Nat) o, w.heap[k]? = some o → (∀ cs t fr, o = .cells cs t fr → t = 164 ∨ t = 168 ∨ t = 170) → w'.heap[k]? = w.heap[k]?) : Dk w' base B lb bm cv d := by
  obtain ⟨D, ⟨es, cl, hm, _⟩, _⟩ := h.seen
  refine h.other (hs B _ h.top fun cs t fr e => ?_) (hs lb _ h.las fun cs t fr e => ?_) (hs bm _ hm fun cs t fr e => ?_) (fun k hk => ?_)
  · injection e with _ e; exact .inl e.symm
  · injection e with _ e; exact .inr (.inl e.symm)
  · cases e
  · obtain ⟨cs, hc⟩ := own_block h.cache k hk
    exact hs k _ hc fun cs t fr e => by injection e with _ e; exact .inr (.inr e.symm)

theorem Book.keep {w w' : World} {base B : Nat} {vb vi : Value} {vs us : List Value} {ln lm : Nat → Nat} (h : Book w base B vb vs ln vi us lm) (hs : ∀ (k : Nat) cs t, w.heap[k]? = some (.cells cs t (0, 0)) → (t = 76 ∨ (t = 22 ∧ vb.ownBlock = some k) ∨ t = 96 ∨ t = 3 ∨ (t = 5 ∧ ∃ v ∈ vs, v.ownBlock = some k)) → w'.heap[k]? = w.heap[k]?) : Book w' base B vb vs ln vi us lm := by
  refine ⟨(hs B _ _ h.cell (.inl rfl)).trans h.cell, Bk.start (own_of_same h.bytes.row (fun k hk => ?_)) (fun j v hv => ?_), Bk.start (own_of_same h.ints.row (fun k hk => ?_)) (fun j v hv => ?_), h.apt, h.apti⟩
  · obtain ⟨cs, hc⟩ := own_block h.bytes.row k hk
    exact hs k cs _ hc (.inr (.inl ⟨rfl, hk⟩))
  · obtain ⟨xs, hx, _⟩ := h.bytes.rows j v hv
    refine ⟨xs, own_of_same hx (fun k hk => ?_)⟩
    obtain ⟨cs, hc⟩ := own_block hx k hk
    exact hs k cs _ hc (.inr (.inr (.inr (.inr ⟨rfl, v, List.mem_of_getElem? hv, hk⟩))))
  · obtain ⟨cs, hc⟩ := own_block h.ints.row k hk
    exact hs k cs _ hc (.inr (.inr (.inl rfl)))
  · obtain ⟨xs, hx, _⟩ := h.ints.rows j v hv
    refine ⟨xs, own_of_same hx (fun k hk => ?_)⟩
    obtain ⟨cs, hc⟩ := own_block hx k hk
    exact hs k cs _ hc (.inr (.inr (.inr (.inl rfl))))

/-- The numbers of a disk behind m acts. -/
structure Bd (d : Dsk) (m : Nat) : Prop where
  ls : d.ls.length ≤ 16384
  cs : d.cs.length ≤ m
  trip : -9223372036854775808 ≤ d.trip ∧ d.trip ≤ 9223372036854775807
  rd : 0 ≤ d.rd ∧ d.rd ≤ (m : Int)
  wr : 0 ≤ d.wr ∧ d.wr ≤ (m : Int)
  fl : 0 ≤ d.fl ∧ d.fl ≤ (m : Int)
theorem Bd.small {d : Dsk} {m : Nat} (h : Bd d m) (hm : m ≤ 100000000) : Small d := by
  have := h.cs; have := h.rd; have := h.wr; have := h.fl
  exact ⟨h.ls, by omega, h.trip.2, by omega, by omega, by omega⟩
theorem Bd.begins {d : Dsk} {m : Nat} (h : Bd d m) : Bd d.begins.1 m := by
  have h1 := h.trip
  unfold Dsk.begins
  split
  · exact h
  · split
    · exact ⟨h.ls, h.cs, ⟨by simp only; omega, by simp only; omega⟩, h.rd, h.wr, h.fl⟩
    · refine ⟨h.ls, h.cs, ?_, h.rd, h.wr, h.fl⟩
      dsimp only
      split <;> omega
theorem Bd.succ {d : Dsk} {m : Nat} (h : Bd d m) : Bd d (m + 1) := by
  have := h.cs; have := h.rd; have := h.wr; have := h.fl
  exact ⟨h.ls, by omega, h.trip, by omega, by omega, by omega⟩
theorem Bd.reads {d : Dsk} {m : Nat} (h : Bd d m) (a : Int) : Bd (d.reads a).1 (m + 1) := by
  have hb := h.begins
  have hs := begins_len d
  unfold Dsk.reads
  split
  · exact hb.succ
  · have := hb.rd; have := hb.cs; have := hb.wr; have := hb.fl
    split <;> exact ⟨hb.ls, by simp only; omega, hb.trip, by simp only; omega, by simp only; omega, by simp only; omega⟩
theorem Bd.put {d : Dsk} {m : Nat} (h : Bd d m) (a : Int) (s : List UInt8) : Bd (d.put a s).1 (m + 1) := by
  have hb := h.begins
  rw [put_eq]
  split
  · exact hb.succ
  · have := hb.rd; have := hb.cs; have := hb.wr; have := hb.fl
    unfold Dsk.puts
    split
    · exact ⟨hb.ls, by simp only; omega, hb.trip, by simp only; omega, by simp only; omega, by simp only; omega⟩
    · split
      · exact ⟨hb.ls, by simp only; omega, hb.trip, by simp only; omega, by simp only; omega, by simp only; omega⟩
      · exact ⟨hb.ls, by simp only [List.length_append, List.length_singleton]; omega, hb.trip, by simp only; omega, by simp only; omega, by simp only; omega⟩
theorem Bd.flushed {d : Dsk} {m : Nat} (h : Bd d m) : Bd d.flushed.1 (m + 1) := by
  have hb := h.begins
  unfold Dsk.flushed
  split
  · exact hb.succ
  · have := hb.rd; have := hb.cs; have := hb.wr; have := hb.fl
    exact ⟨by simp only [settled_len]; exact hb.ls, by simp, hb.trip, by simp only; omega, by simp only; omega, by simp only; omega⟩
theorem Bd.cutBy {d : Dsk} {m : Nat} (h : Bd d m) (keep : List Bool) : Bd (d.cutBy keep) (m + 1) := by
  have := h.rd; have := h.cs; have := h.wr; have := h.fl
  unfold Dsk.cutBy
  exact ⟨by simp only [settled_len]; exact h.ls, by simp, ⟨by simp only; omega, by simp only; omega⟩, by simp only; omega, by simp only; omega, by simp only; omega⟩
theorem Bd.tripped {d : Dsk} {m : Nat} (h : Bd d m) (n : Int) (hn : n ≤ 9223372036854775807) : Bd (d.tripped n).1 (m + 1) := by
  unfold Dsk.tripped
  split
  · exact h.succ
  · split
    · exact h.succ
    · have h2 := h.succ
      exact ⟨h2.ls, h2.cs, ⟨by simp only; omega, hn⟩, h2.rd, h2.wr, h2.fl⟩

/-- The pair and the book: the program's disk is d, the reference's e; behind M lists that came out. -/
structure Pr (w wr : World) (B lb bm RB BB PB av hi : Nat) (d e : Dsk) (M : Nat) : Prop where
  dk : ∃ cv, Dk wr w.heap.size B lb bm cv d
  rb : ∃ (lv rcv vb : Value) (vs : List Value) (ln : Nat → Nat) (vi : Value) (us : List Value) (lm : Nat → Nat), RD wr w.heap.size RB av lv rcv e ∧ Book wr w.heap.size BB vb vs ln vi us lm ∧ (∀ j, ln j ≤ 1000000000) ∧ (∀ j, lm j ≤ 1000000000) ∧ vs.length ≤ M ∧ us.length ≤ M ∧
    (∀ k, lv.ownBlock = some k → vb.ownBlock ≠ some k) ∧ (∀ v ∈ vs, ∀ k, v.ownBlock = some k → k < hi) ∧ ∀ v ∈ us, ∀ k, v.ownBlock = some k → k < hi
  pair : wr.heap[PB]? = some (.cells #[.pointer (some ⟨B, 0, none⟩), .pointer (some ⟨RB, 0, none⟩), .pointer (some ⟨BB, 0, none⟩)] 118 (0, 0))
  lo : w.heap.size ≤ BB
  hav : hi ≤ av
  below : Below w.heap.size w wr

/-- What may turn: blocks of the disks' and the book's own types. -/
structure Afr (base : Nat) (w w' : World) : Prop where
  below : Below base w w'
  keep : ∀ (k : Nat) cs t fr, w.heap[k]? = some (.cells cs t fr) → t ≠ 164 → t ≠ 168 → t ≠ 170 → t ≠ 176 → t ≠ 22 → t ≠ 256 → t ≠ 76 → t ≠ 96 → w'.heap[k]? = w.heap[k]?
theorem Afr.ofDfr {base : Nat} {w w' : World} (h : Dfr base w w') : Afr base w w' := ⟨h.below, fun k cs t fr hk h1 h2 h3 _ _ _ _ _ => h.keep k cs t fr hk h1 h2 h3⟩
theorem Afr.ofBelow {base : Nat} {w w' : World} (h : Below w.heap.size w w') (hb : base ≤ w.heap.size) : Afr base w w' := Afr.ofDfr (Dfr.ofBelow h hb)
theorem Afr.trans {base : Nat} {a b c : World} (h : Afr base a b) (k : Afr base b c) : Afr base a c :=
  ⟨h.below.trans k.below, fun i cs t fr hi h1 h2 h3 h4 h5 h6 h7 h8 => (k.keep i cs t fr ((h.keep i cs t fr hi h1 h2 h3 h4 h5 h6 h7 h8).trans hi) h1 h2 h3 h4 h5 h6 h7 h8).trans (h.keep i cs t fr hi h1 h2 h3 h4 h5 h6 h7 h8)⟩
theorem Afr.own {base base' : Nat} {w w' : World} (h : Afr base w w') {e : TypeId} {s : Nat} {v : Value} {n : Nat} {xs : List Value} (hv : w.ownsRow base' e s v n xs) (he : e = 5 ∨ e = 3) : w'.ownsRow base' e s v n xs :=
  own_of_same hv (fun k hk => by
    obtain ⟨cs, hc⟩ := own_block hv k hk
    rcases he with rfl | rfl
    all_goals exact h.keep k cs _ _ hc (by decide) (by decide) (by decide) (by decide) (by decide) (by decide) (by decide) (by decide))

section
variable {w wr w' : World} {B lb bm RB BB PB av hi : Nat} {d e : Dsk} {M : Nat}
/-- The pair's blocks are as they were. -/
theorem Pr.kept (h : Pr w wr B lb bm RB BB PB av hi d e M) (hb : Below w.heap.size wr w') (hs : ∀ (k : Nat) o, wr.heap[k]? = some o → (∀ cs t fr, o = .cells cs t fr → t ≠ 4 ∧ (t = 5 → k ≠ av)) → w'.heap[k]? = wr.heap[k]?) : Pr w w' B lb bm RB BB PB av hi d e M := by
  obtain ⟨cv, h1⟩ := h.dk
  obtain ⟨lv, rcv, vb, vs, ln, vi, us, lm, h2, h3, h4, h5, h6, h7, h8, h9, h10⟩ := h.rb
  refine ⟨⟨cv, h1.keep fun k o hk ho => hs k o hk fun cs t fr e => ?_⟩, ⟨lv, rcv, vb, vs, ln, vi, us, lm, h2.keep fun k cs t hk ht => hs k _ hk fun cs' t' fr e => ?_, h3.keep fun k cs t hk ht => hs k _ hk fun cs' t' fr e => ?_, h4, h5, h6, h7, h8, h9, h10⟩, ?_, h.lo, h.hav, h.below.trans hb⟩
  · rcases ho cs t fr e with rfl | rfl | rfl
    all_goals exact ⟨by decide, fun h => absurd h (by decide)⟩
  · injection e with _ e
    subst e
    rcases ht with rfl | ⟨rfl, _⟩ | rfl | ⟨rfl, ht⟩
    · exact ⟨by decide, fun h => absurd h (by decide)⟩
    · exact ⟨by decide, fun h => absurd h (by decide)⟩
    · exact ⟨by decide, fun h => absurd h (by decide)⟩
    · exact ⟨by decide, fun _ => ht⟩
  · injection e with _ e
    subst e
    rcases ht with rfl | ⟨rfl, _⟩ | rfl | rfl | ⟨rfl, v, hv, hvk⟩
    · exact ⟨by decide, fun h => absurd h (by decide)⟩
    · exact ⟨by decide, fun h => absurd h (by decide)⟩
    · exact ⟨by decide, fun h => absurd h (by decide)⟩
    · exact ⟨by decide, fun h => absurd h (by decide)⟩
    · exact ⟨by decide, fun _ e => by have := h9 v hv _ hvk; have := h.hav; omega⟩
  · exact (hs PB _ h.pair fun cs t fr e => by injection e with _ e; subst e; exact ⟨by decide, fun h => absurd h (by decide)⟩).trans h.pair
theorem Pr.step (h : Pr w wr B lb bm RB BB PB av hi d e M) (hb : Below wr.heap.size wr w') : Pr w w' B lb bm RB BB PB av hi d e M :=
  h.kept (hb.mono h.below.size) fun k _ hk _ => hb.block k (heap_lt' hk)
theorem Pr.reset (h : Pr w wr B lb bm RB BB PB av hi d e M) (av' : Nat) (hav : wr.heap.size ≤ av') : Pr w wr B lb bm RB BB PB av' wr.heap.size d e M := by
  obtain ⟨lv, rcv, vb, vs, ln, vi, us, lm, h2, h3, h4, h5, h6, h7, h8, h9, h10⟩ := h.rb
  refine ⟨h.dk, ⟨lv, rcv, vb, vs, ln, vi, us, lm, h2.reav av' hav, h3, h4, h5, h6, h7, h8, fun v hv k hk => ?_, fun v hv k hk => ?_⟩, h.pair, h.lo, hav, h.below⟩
  · obtain ⟨j, hj⟩ := List.getElem?_of_mem hv
    obtain ⟨xs, hx, _⟩ := h3.bytes.rows j v hj
    exact (hx.lt k hk).2
  · obtain ⟨j, hj⟩ := List.getElem?_of_mem hv
    obtain ⟨xs, hx, _⟩ := h3.ints.rows j v hj
    exact (hx.lt k hk).2
/-- What was lent is spoilt. -/
theorem Pr.spoil (h : Pr w wr B lb bm RB BB PB av hi d e M) {q : Nat} {cs : Array Value} {t : TypeId} (hq : wr.heap[q]? = some (.cells cs t (0, 0))) (ht : t = 4 ∨ (t = 5 ∧ q = av)) (hlo : w.heap.size ≤ q) (hg : wr.grownBy w' (some q)) : Pr w w' B lb bm RB BB PB av hi d e M :=
  h.kept ((Below.refl w.heap.size wr).grown hg h.below.size (fun k hk => by injection hk with hk; omega)) fun k o hk ho => hg.block k (heap_lt' hk) (fun e2 => by
    injection e2 with e2
    subst e2
    rw [hq] at hk
    injection hk with hk
    obtain ⟨a1, a2⟩ := ho _ _ _ hk.symm
    rcases ht with rfl | ⟨rfl, h2⟩
    · exact a1 rfl
    · exact a2 rfl h2)
/-- An operation of the program's. -/
theorem Pr.dfr (h : Pr w wr B lb bm RB BB PB av hi d e M) {d' : Dsk} (hd : ∃ cv, Dk w' w.heap.size B lb bm cv d') (hf : Dfr w.heap.size wr w') : Pr w w' B lb bm RB BB PB av hi d' e M := by
  obtain ⟨lv, rcv, vb, vs, ln, vi, us, lm, h2, h3, h4, h5, h6, h7, h8, h9, h10⟩ := h.rb
  refine ⟨hd, ⟨lv, rcv, vb, vs, ln, vi, us, lm, h2.dfr hf, h3.keep fun k cs t hk ht => ?_, h4, h5, h6, h7, h8, h9, h10⟩, (hf.keep PB _ _ _ h.pair (by decide) (by decide) (by decide)).trans h.pair, h.lo, h.hav, h.below.trans hf.below⟩
  rcases ht with rfl | ⟨rfl, _⟩ | rfl | rfl | ⟨rfl, _⟩
  all_goals exact hf.keep k cs _ _ hk (by decide) (by decide) (by decide)
/-- An operation of the reference's. -/
theorem gr3_afr {base : Nat} {lv rcv : Value} (h : RD wr base RB av lv rcv e) (hg : Gr3 RB lv.ownBlock rcv.ownBlock wr w') (hb : base ≤ wr.heap.size) : Afr base wr w' := by
  obtain ⟨vs, r1, _⟩ := h.las
  obtain ⟨us, _, r2, _⟩ := h.cache
  refine ⟨hg.below hb h.lo (fun k hk => (r1.lt k hk).1) (fun k hk => (r2.lt k hk).1), fun k cs t fr hk h1 h2 h3 h4 h5 h6 h7 h8 => hg.block k (heap_lt' hk) (fun e1 => ?_) (fun e1 => ?_) (fun e1 => ?_)⟩
  · subst e1
    rw [h.top] at hk
    injection hk with hk
    injection hk with _ hk
    exact h4 hk.symm
  · exact own_not r1 hk (fun e2 => h5 e2.symm) e1
  · exact own_not r2 hk (fun e2 => h6 e2.symm) e1
/-- The reference's operation is done. -/
theorem Pr.rdone (hdk : ∃ cv, Dk wr w.heap.size B lb bm cv d) {lv rcv rcv' vb vi : Value} {vs us : List Value} {ln lm : Nat → Nat} {e' : Dsk} (h2 : RD wr w.heap.size RB av lv rcv e) (h3 : Book wr w.heap.size BB vb vs ln vi us lm) (h4 : ∀ j, ln j ≤ 1000000000) (h5 : ∀ j, lm j ≤ 1000000000)
    (h6 : vs.length ≤ M) (h7 : us.length ≤ M) (h8 : ∀ k, lv.ownBlock = some k → vb.ownBlock ≠ some k) (h9 : ∀ v ∈ vs, ∀ k, v.ownBlock = some k → k < hi) (h10 : ∀ v ∈ us, ∀ k, v.ownBlock = some k → k < hi)
    (hp : wr.heap[PB]? = some (.cells #[.pointer (some ⟨B, 0, none⟩), .pointer (some ⟨RB, 0, none⟩), .pointer (some ⟨BB, 0, none⟩)] 118 (0, 0))) (hlo : w.heap.size ≤ BB) (hav : hi ≤ av) (hbl : Below w.heap.size w wr)
    (h2' : RD w' w.heap.size RB av lv rcv' e') (hg : Gr3 RB lv.ownBlock rcv.ownBlock wr w') : Pr w w' B lb bm RB BB PB av hi d e' M ∧ Afr w.heap.size wr w' := by
  have ha := gr3_afr h2 hg hbl.size
  have hblk : ∀ (k : Nat) o, wr.heap[k]? = some o → (∀ cs t fr, o = .cells cs t fr → t ≠ 176 ∧ (t = 22 → lv.ownBlock ≠ some k) ∧ t ≠ 256) → w'.heap[k]? = wr.heap[k]? := fun k o hk ho => hg.block k (heap_lt' hk)
    (fun e1 => by subst e1; rw [h2.top] at hk; injection hk with hk; exact (ho _ _ _ hk.symm).1 rfl)
    (fun e1 => by
      obtain ⟨vs0, r1, _⟩ := h2.las
      obtain ⟨cs, hc⟩ := own_block r1 k e1.symm
      rw [hc] at hk
      injection hk with hk
      exact (ho _ _ _ hk.symm).2.1 rfl e1.symm)
    (fun e1 => by
      obtain ⟨us0, _, r1, _⟩ := h2.cache
      obtain ⟨cs, hc⟩ := own_block r1 k e1.symm
      rw [hc] at hk
      injection hk with hk
      exact (ho _ _ _ hk.symm).2.2 rfl)
  obtain ⟨cv, h1⟩ := hdk
  refine ⟨⟨⟨cv, h1.keep fun k o hk ho => hblk k o hk fun cs t fr e => ?_⟩, ⟨lv, rcv', vb, vs, ln, vi, us, lm, h2', h3.keep fun k cs t hk ht => hblk k _ hk fun cs' t' fr e => ?_, h4, h5, h6, h7, h8, h9, h10⟩, (hblk PB _ hp fun cs t fr e => ?_).trans hp, hlo, hav, hbl.trans ha.below⟩, ha⟩
  · rcases ho cs t fr e with rfl | rfl | rfl
    all_goals exact ⟨by decide, fun h => absurd h (by decide), by decide⟩
  · injection e with _ e
    subst e
    rcases ht with rfl | ⟨rfl, hv⟩ | rfl | rfl | ⟨rfl, _⟩
    · exact ⟨by decide, fun h => absurd h (by decide), by decide⟩
    · exact ⟨by decide, fun _ e => h8 k e hv, by decide⟩
    · exact ⟨by decide, fun h => absurd h (by decide), by decide⟩
    · exact ⟨by decide, fun h => absurd h (by decide), by decide⟩
    · exact ⟨by decide, fun h => absurd h (by decide), by decide⟩
  · injection e with _ e
    subst e
    exact ⟨by decide, fun h => absurd h (by decide), by decide⟩
/-- The book's operation is done. -/
theorem Pr.bdone (hdk : ∃ cv, Dk wr w.heap.size B lb bm cv d) {lv rcv vb vi vb' vi' : Value} {vs us vs' us' : List Value} {ln lm ln' lm' : Nat → Nat} {M' : Nat} {r : Option Nat} (h2 : RD wr w.heap.size RB av lv rcv e) (h3 : Book wr w.heap.size BB vb vs ln vi us lm)
    (hp : wr.heap[PB]? = some (.cells #[.pointer (some ⟨B, 0, none⟩), .pointer (some ⟨RB, 0, none⟩), .pointer (some ⟨BB, 0, none⟩)] 118 (0, 0))) (hlo : w.heap.size ≤ BB) (hbl : Below w.heap.size w wr)
    (h3' : Book w' w.heap.size BB vb' vs' ln' vi' us' lm') (hg : Gro BB r wr w') (hr : (r = vb.ownBlock ∨ r = vi.ownBlock)) (h4 : ∀ j, ln' j ≤ 1000000000) (h5 : ∀ j, lm' j ≤ 1000000000)
    (h6 : vs'.length ≤ M') (h7 : us'.length ≤ M') (h8 : ∀ k, lv.ownBlock = some k → vb.ownBlock ≠ some k) (han : Anew wr vb.ownBlock vb'.ownBlock) : Pr w w' B lb bm RB BB PB w'.heap.size w'.heap.size d e M' ∧ Afr w.heap.size wr w' := by
  obtain ⟨vs0, r1, _⟩ := h2.las
  have hblk : ∀ (k : Nat) o, wr.heap[k]? = some o → (∀ cs t fr, o = .cells cs t fr → t ≠ 76 ∧ (t = 22 → vb.ownBlock ≠ some k) ∧ t ≠ 96) → w'.heap[k]? = wr.heap[k]? := fun k o hk ho => hg.block k (heap_lt' hk)
    (fun e1 => by subst e1; rw [h3.cell] at hk; injection hk with hk; exact (ho _ _ _ hk.symm).1 rfl)
    (fun e1 => by
      rcases hr with rfl | rfl
      · obtain ⟨cs, hc⟩ := own_block h3.bytes.row k e1.symm
        rw [hc] at hk
        injection hk with hk
        exact (ho _ _ _ hk.symm).2.1 rfl e1.symm
      · obtain ⟨cs, hc⟩ := own_block h3.ints.row k e1.symm
        rw [hc] at hk
        injection hk with hk
        exact (ho _ _ _ hk.symm).2.2 rfl)
  have hbb : Below w.heap.size wr w' := ⟨hg.os, hg.tape, hg.output, hg.size, fun k hk => hg.block k (by have := hbl.size; omega) (by omega) (fun e1 => by
    rcases hr with rfl | rfl
    · have := (h3.bytes.row.lt k e1.symm).1; omega
    · have := (h3.ints.row.lt k e1.symm).1; omega)⟩
  have ha : Afr w.heap.size wr w' := ⟨hbb, fun k cs t fr hk _ _ _ _ a5 _ a7 a8 => hblk k _ hk fun cs' t' fr' e => by injection e with _ e; subst e; exact ⟨a7, fun h => absurd h a5, a8⟩⟩
  obtain ⟨cv, h1⟩ := hdk
  have h2' : RD w' w.heap.size RB av lv rcv e := h2.keep fun k cs t hk ht => hblk k _ hk fun cs' t' fr e => by
    injection e with _ e
    subst e
    rcases ht with rfl | ⟨rfl, hv⟩ | rfl | ⟨rfl, _⟩
    · exact ⟨by decide, fun h => absurd h (by decide), by decide⟩
    · exact ⟨by decide, fun _ => h8 k hv, by decide⟩
    · exact ⟨by decide, fun h => absurd h (by decide), by decide⟩
    · exact ⟨by decide, fun h => absurd h (by decide), by decide⟩
  refine ⟨⟨⟨cv, h1.keep fun k o hk ho => hblk k o hk fun cs t fr e => ?_⟩, ⟨lv, rcv, vb', vs', ln', vi', us', lm', h2'.reav _ (Nat.le_refl _), h3', h4, h5, h6, h7, fun k hk e1 => ?_, fun v hv k hk => ?_, fun v hv k hk => ?_⟩, (hblk PB _ hp fun cs t fr e => ?_).trans hp, hlo, Nat.le_refl _, hbl.trans hbb⟩, ha⟩
  · rcases ho cs t fr e with rfl | rfl | rfl
    all_goals exact ⟨by decide, fun h => absurd h (by decide), by decide⟩
  · rcases han k e1 with e2 | e2
    · exact h8 k hk e2
    · have := (r1.lt k hk).2; omega
  · obtain ⟨j, hj⟩ := List.getElem?_of_mem hv
    obtain ⟨xs, hx, _⟩ := h3'.bytes.rows j v hj
    exact (hx.lt k hk).2
  · obtain ⟨j, hj⟩ := List.getElem?_of_mem hv
    obtain ⟨xs, hx, _⟩ := h3'.ints.rows j v hj
    exact (hx.lt k hk).2
  · injection e with _ e
    subst e
    exact ⟨by decide, fun h => absurd h (by decide), by decide⟩
end
end Go.Proofs.Ytnplcfgjidolbaa
end
section
namespace Go.Proofs.Ytnplcfgjidolbaa
open Go.RowKit Go.Maps

section
variable {w wr : World} {B lb bm RB BB PB av hi : Nat} {d e : Dsk} {M : Nat}
theorem pair_cells {wr : World} (h : wr.heap[PB]? = some (.cells #[.pointer (some ⟨B, 0, none⟩), .pointer (some ⟨RB, 0, none⟩), .pointer (some ⟨BB, 0, none⟩)] 118 (0, 0))) :
    wr.cell? ⟨PB, 0, none⟩ = some (.pointer (some ⟨B, 0, none⟩)) ∧ wr.cell? ⟨PB, 1, none⟩ = some (.pointer (some ⟨RB, 0, none⟩)) ∧ wr.cell? ⟨PB, 2, none⟩ = some (.pointer (some ⟨BB, 0, none⟩)) :=
  ⟨(cell_of_row _ _ _ _ _ _ h).trans rfl, (cell_of_row _ _ _ _ _ _ h).trans rfl, (cell_of_row _ _ _ _ _ _ h).trans rfl⟩
theorem p_read (h : Pr w wr B lb bm RB BB PB av hi d e M) (hs : Small d) (a : Int) : Calls Try.prog 39 #[.pointer (some ⟨B, 0, none⟩), .int .i64 a] wr fun x w' => ∃ v, x = .returned (.tuple #[v, .int .u16 (d.reads a).2.2]) ∧ Pr w w' B lb bm RB BB PB av hi (d.reads a).1 e M ∧ OutV w' wr.heap.size v (d.reads a).2.1 ∧ Afr w.heap.size wr w' := by
  obtain ⟨cv, h1⟩ := h.dk
  exact (dread_any wr w.heap.size B lb bm cv d a h1 hs).mono fun x w' ⟨v, e1, e2, e3, e4⟩ => ⟨v, e1, h.dfr ⟨cv, e2⟩ e3, e4, Afr.ofDfr e3⟩
theorem p_write (h : Pr w wr B lb bm RB BB PB av hi d e M) (hs : Small d) (a : Int) (bv : Value) (s : List UInt8) (b0 : Nat) (hb : wr.ownsRow b0 5 1 bv s.length (s.map f8)) : Calls Try.prog 32 #[.pointer (some ⟨B, 0, none⟩), .int .i64 a, bv] wr fun x w' => x = .returned (.int .u16 (d.put a s).2) ∧ Pr w w' B lb bm RB BB PB av hi (d.put a s).1 e M ∧ Afr w.heap.size wr w' := by
  obtain ⟨cv, h1⟩ := h.dk
  exact (dwrite_any wr w.heap.size B lb bm cv d a bv s b0 h1 hb hs).mono fun x w' ⟨e1, cv', e2, e3⟩ => ⟨e1, h.dfr ⟨cv', e2⟩ e3, Afr.ofDfr e3⟩
theorem p_flush (h : Pr w wr B lb bm RB BB PB av hi d e M) (hs : Small d) : Calls Try.prog 40 #[.pointer (some ⟨B, 0, none⟩)] wr fun x w' => x = .returned (.int .u16 d.flushed.2) ∧ Pr w w' B lb bm RB BB PB av hi d.flushed.1 e M ∧ Afr w.heap.size wr w' := by
  obtain ⟨cv, h1⟩ := h.dk
  exact (dflush_any wr w.heap.size B lb bm cv d h1 hs).mono fun x w' ⟨e1, cv', e2, e3⟩ => ⟨e1, h.dfr ⟨cv', e2⟩ e3, Afr.ofDfr e3⟩
theorem p_cut (h : Pr w wr B lb bm RB BB PB av hi d e M) (hc : d.cs.length ≤ 100000000) (kv : Value) (keep : List Bool) (hk : ∀ W, Dfr w.heap.size wr W → Sl 0 W.heap.size fB W kv keep) : Calls Try.prog 38 #[.pointer (some ⟨B, 0, none⟩), kv] wr fun x w' => x = .returned (.tuple #[]) ∧ Pr w w' B lb bm RB BB PB av hi (d.cutBy keep) e M ∧ Dfr w.heap.size wr w' := by
  obtain ⟨cv, h1⟩ := h.dk
  exact (dcut_any wr w.heap.size B lb bm cv d kv keep h1 hc hk).mono fun x w' ⟨e1, e2, e3⟩ => ⟨e1, h.dfr ⟨_, e2⟩ e3, e3⟩
theorem p_pending (h : Pr w wr B lb bm RB BB PB av hi d e M) (hc : d.cs.length ≤ 100000000) : Calls Try.prog 35 #[.pointer (some ⟨B, 0, none⟩)] wr fun x w' => ∃ v, x = .returned v ∧ w'.ownsRow wr.heap.size 3 1 v d.cs.length (d.cs.map fun c => fN c.1) ∧ Pr w w' B lb bm RB BB PB av hi d e M ∧ Afr w.heap.size wr w' := by
  obtain ⟨cv, h1⟩ := h.dk
  exact (pending_any wr w.heap.size B lb bm cv d h1 hc).mono fun x w' ⟨v, e1, e2, e3⟩ => ⟨v, e1, e2, h.step e3, Afr.ofBelow e3 h.below.size⟩
theorem p_image (h : Pr w wr B lb bm RB BB PB av hi d e M) (hn : d.ls.length ≤ 16384) : Calls Try.prog 41 #[.pointer (some ⟨B, 0, none⟩)] wr fun x w' => ∃ v, x = .returned v ∧ w'.ownsRow wr.heap.size 5 1 v d.ls.flatten.length (d.ls.flatten.map f8) ∧ d.ls.flatten.length = d.ls.length * 256 ∧ Pr w w' B lb bm RB BB PB av hi d e M ∧ Afr w.heap.size wr w' := by
  obtain ⟨cv, h1⟩ := h.dk
  exact (image_any wr w.heap.size B lb bm cv d h1 hn).mono fun x w' ⟨v, e1, e2, e3, e4⟩ => ⟨v, e1, e2, e3, h.step e4, Afr.ofBelow e4 h.below.size⟩
theorem p_trip (h : Pr w wr B lb bm RB BB PB av hi d e M) (n : Int) : Calls Try.prog 31 #[.pointer (some ⟨B, 0, none⟩), .int .i64 n] wr fun x w' => x = .returned (.int .u16 (d.tripped n).2) ∧ Pr w w' B lb bm RB BB PB av hi (d.tripped n).1 e M ∧ Afr w.heap.size wr w' := by
  obtain ⟨cv, h1⟩ := h.dk
  exact (trip_any h1 n).mono fun x w' ⟨e1, e2, e3⟩ => ⟨e1, h.dfr ⟨cv, e2⟩ e3, Afr.ofDfr e3⟩
theorem p_dark (h : Pr w wr B lb bm RB BB PB av hi d e M) : Calls Try.prog 34 #[.pointer (some ⟨B, 0, none⟩)] wr fun x w' => x = .returned (.bool d.dark) ∧ wr = w' := by
  obtain ⟨cv, h1⟩ := h.dk
  exact dark_any h1
theorem p_counts (h : Pr w wr B lb bm RB BB PB av hi d e M) : Calls Try.prog 36 #[.pointer (some ⟨B, 0, none⟩)] wr fun x w' => x = .returned (.agg #[.int .i64 d.rd, .int .i64 d.wr, .int .i64 d.fl]) ∧ Below wr.heap.size wr w' := by
  obtain ⟨cv, h1⟩ := h.dk
  exact counts_any h1
theorem p_sectors (h : Pr w wr B lb bm RB BB PB av hi d e M) : Calls Try.prog 96 #[.pointer (some ⟨B, 0, none⟩)] wr fun x w' => x = .returned (.int .i64 (d.ls.length : Int)) ∧ wr = w' := by
  obtain ⟨cv, h1⟩ := h.dk
  exact sectors_any h1

theorem r_read (h : Pr w wr B lb bm RB BB PB av hi d e M) (hs : Small e) (ht : -9223372036854775808 ≤ e.trip) (a : Int) : Calls Try.prog 98 #[.pointer (some ⟨RB, 0, none⟩), .int .i64 a] wr fun x w' => ∃ v, x = .returned (.tuple #[v, .int .u16 (e.reads a).2.2]) ∧ Pr w w' B lb bm RB BB PB av hi d (e.reads a).1 M ∧ OutV w' wr.heap.size v (e.reads a).2.1 ∧ Afr w.heap.size wr w' := by
  obtain ⟨lv, rcv, vb, vs, ln, vi, us, lm, h2, h3, h4, h5, h6, h7, h8, h9, h10⟩ := h.rb
  refine (rread_any wr w.heap.size RB av lv rcv e a h2 hs ht).mono ?_
  rintro x w' ⟨v, e1, e2, e3, e4⟩
  obtain ⟨q1, q2⟩ := Pr.rdone h.dk h2 h3 h4 h5 h6 h7 h8 h9 h10 h.pair h.lo h.hav h.below e2 e3
  exact ⟨v, e1, q1, e4, q2⟩
theorem r_write (h : Pr w wr B lb bm RB BB PB av hi d e M) (hs : Small e) (ht : -9223372036854775808 ≤ e.trip) (a : Int) (bv : Value) (s : List UInt8) (hb : ∀ w', Below w.heap.size w w' → Sl 0 w'.heap.size f8 w' bv s) (hav : av < wr.heap.size) : Calls Try.prog 99 #[.pointer (some ⟨RB, 0, none⟩), .int .i64 a, bv] wr fun x w' => x = .returned (.int .u16 (e.put a s).2) ∧ Pr w w' B lb bm RB BB PB av hi d (e.put a s).1 M ∧ Afr w.heap.size wr w' := by
  obtain ⟨lv, rcv, vb, vs, ln, vi, us, lm, h2, h3, h4, h5, h6, h7, h8, h9, h10⟩ := h.rb
  refine (rwrite_any wr w.heap.size RB av lv rcv bv e a s h2 hs ht (fun w' hw => hb w' (h.below.trans (gr3_afr h2 hw h.below.size).below)) hav).mono ?_
  rintro x w' ⟨e1, ⟨cv', e2, _⟩, e3⟩
  obtain ⟨q1, q2⟩ := Pr.rdone h.dk h2 h3 h4 h5 h6 h7 h8 h9 h10 h.pair h.lo h.hav h.below e2 e3
  exact ⟨e1, q1, q2⟩
theorem r_flush (h : Pr w wr B lb bm RB BB PB av hi d e M) (hs : Small e) (ht : -9223372036854775808 ≤ e.trip) : Calls Try.prog 100 #[.pointer (some ⟨RB, 0, none⟩)] wr fun x w' => x = .returned (.int .u16 e.flushed.2) ∧ Pr w w' B lb bm RB BB PB av hi d e.flushed.1 M ∧ Afr w.heap.size wr w' := by
  obtain ⟨lv, rcv, vb, vs, ln, vi, us, lm, h2, h3, h4, h5, h6, h7, h8, h9, h10⟩ := h.rb
  refine (rflush_any wr w.heap.size RB av lv rcv e h2 hs ht).mono ?_
  rintro x w' ⟨e1, ⟨cv', e2, _⟩, e3⟩
  obtain ⟨q1, q2⟩ := Pr.rdone h.dk h2 h3 h4 h5 h6 h7 h8 h9 h10 h.pair h.lo h.hav h.below e2 e3
  exact ⟨e1, q1, q2⟩
theorem r_cut (h : Pr w wr B lb bm RB BB PB av hi d e M) (hc : e.cs.length ≤ 100000000) (kv : Value) (keep : List Bool) (hk : ∀ w', Below w.heap.size w w' → Sl 0 w'.heap.size fB w' kv keep) : Calls Try.prog 102 #[.pointer (some ⟨RB, 0, none⟩), kv] wr fun x w' => x = .returned (.tuple #[]) ∧ Pr w w' B lb bm RB BB PB av hi d (e.cutBy keep) M ∧ Afr w.heap.size wr w' ∧ ∀ (k : Nat) cs fr, wr.heap[k]? = some (.cells cs 4 fr) → w'.heap[k]? = wr.heap[k]? := by
  obtain ⟨lv, rcv, vb, vs, ln, vi, us, lm, h2, h3, h4, h5, h6, h7, h8, h9, h10⟩ := h.rb
  refine (rcut_any wr w.heap.size RB av lv rcv e kv keep h2 hc (fun w' hw => hk w' (h.below.trans (gr3_afr h2 hw h.below.size).below))).mono ?_
  rintro x w' ⟨e1, e2, e3⟩
  obtain ⟨q1, q2⟩ := Pr.rdone h.dk h2 h3 h4 h5 h6 h7 h8 h9 h10 h.pair h.lo h.hav h.below e2 e3
  exact ⟨e1, q1, q2, fun k cs fr hk => q2.keep k cs 4 fr hk (by decide) (by decide) (by decide) (by decide) (by decide) (by decide) (by decide) (by decide)⟩
theorem r_trip (h : Pr w wr B lb bm RB BB PB av hi d e M) (n : Int) : Calls Try.prog 108 #[.pointer (some ⟨RB, 0, none⟩), .int .i64 n] wr fun x w' => x = .returned (.int .u16 (e.tripped n).2) ∧ Pr w w' B lb bm RB BB PB av hi d (e.tripped n).1 M ∧ Afr w.heap.size wr w' := by
  obtain ⟨lv, rcv, vb, vs, ln, vi, us, lm, h2, h3, h4, h5, h6, h7, h8, h9, h10⟩ := h.rb
  refine (rtrip_any h2 n).mono ?_
  rintro x w' ⟨e1, e2, e3⟩
  obtain ⟨q1, q2⟩ := Pr.rdone h.dk h2 h3 h4 h5 h6 h7 h8 h9 h10 h.pair h.lo h.hav h.below e2 e3
  exact ⟨e1, q1, q2⟩
theorem r_pending (h : Pr w wr B lb bm RB BB PB av hi d e M) (hc : e.cs.length ≤ 100000000) : Calls Try.prog 106 #[.pointer (some ⟨RB, 0, none⟩)] wr fun x w' => ∃ v, x = .returned v ∧ w'.ownsRow wr.heap.size 3 1 v e.cs.length (e.cs.map fun c => fN c.1) ∧ Pr w w' B lb bm RB BB PB av hi d e M ∧ Afr w.heap.size wr w' := by
  obtain ⟨lv, rcv, vb, vs, ln, vi, us, lm, h2, h3, h4, h5, h6, h7, h8, h9, h10⟩ := h.rb
  exact (rpending_any wr w.heap.size RB av lv rcv e h2 hc).mono fun x w' ⟨v, e1, e2, e3⟩ => ⟨v, e1, e2, h.step e3, Afr.ofBelow e3 h.below.size⟩
theorem r_image (h : Pr w wr B lb bm RB BB PB av hi d e M) (hn : e.ls.length ≤ 16384) : Calls Try.prog 107 #[.pointer (some ⟨RB, 0, none⟩)] wr fun x w' => ∃ v, x = .returned v ∧ w'.ownsRow wr.heap.size 5 1 v e.ls.flatten.length (e.ls.flatten.map f8) ∧ e.ls.flatten.length = e.ls.length * 256 ∧ Pr w w' B lb bm RB BB PB av hi d e M ∧ Afr w.heap.size wr w' := by
  obtain ⟨lv, rcv, vb, vs, ln, vi, us, lm, h2, h3, h4, h5, h6, h7, h8, h9, h10⟩ := h.rb
  exact (rimage_any wr w.heap.size RB av lv rcv e h2 hn).mono fun x w' ⟨v, e1, e2, e3, e4⟩ => ⟨v, e1, e2, e3, h.step e4, Afr.ofBelow e4 h.below.size⟩
theorem r_cells (h : Pr w wr B lb bm RB BB PB av hi d e M) : ∃ ao cap, wr.cell? ⟨RB, 0, none⟩ = some (.slice ao e.ls.length cap) ∧ wr.cell? ⟨RB, 2, none⟩ = some (.bool e.dark) ∧ wr.cell? ⟨RB, 4, none⟩ = some (.int .i64 e.rd) ∧ wr.cell? ⟨RB, 5, none⟩ = some (.int .i64 e.wr) ∧ wr.cell? ⟨RB, 6, none⟩ = some (.int .i64 e.fl) := by
  obtain ⟨lv, rcv, vb, vs, ln, vi, us, lm, h2, h3, h4, h5, h6, h7, h8, h9, h10⟩ := h.rb
  obtain ⟨⟨ao, cap, hl⟩, _⟩ := h2.shape
  obtain ⟨c0, c1, c2, c3, c4, c5, c6, _⟩ := rd_cells h2.top
  exact ⟨ao, cap, by rw [c0, hl], c2, c4, c5, c6⟩

theorem b_bytes (h : Pr w wr B lb bm RB BB PB av hi d e M) {v : Value} {n : Nat} {xs : List Value} (hv : wr.ownsRow w.heap.size 5 1 v n xs) (hf : ∀ k, v.ownBlock = some k → hi ≤ k) (hn : n ≤ 1000000000) (hM : M < 1000000000) : Calls Try.prog 20 #[.pointer (some ⟨BB, 0, none⟩), v] wr fun x w' => x = .returned (.tuple #[]) ∧ Pr w w' B lb bm RB BB PB w'.heap.size w'.heap.size d e (M + 1) ∧ Afr w.heap.size wr w' := by
  obtain ⟨lv, rcv, vb, vs, ln, vi, us, lm, h2, h3, h4, h5, h6, h7, h8, h9, h10⟩ := h.rb
  refine (bookBytes_any wr w.heap.size BB vb vs ln vi us lm v n xs h3 hv (fun u hu k hk hk2 => by have := h9 u hu k hk; have := hf k hk2; omega) (by omega) h.below.size).mono ?_
  rintro x w' ⟨e1, vb', e2, e3, e4⟩
  obtain ⟨q1, q2⟩ := Pr.bdone (M' := M + 1) h.dk h2 h3 h.pair h.lo h.below e2 e3 (.inl rfl) (fun j => by split; exact hn; exact h4 j) h5 (by simp; omega) (by omega) h8 e4
  exact ⟨e1, q1, q2⟩
theorem b_ints (h : Pr w wr B lb bm RB BB PB av hi d e M) {v : Value} {n : Nat} {xs : List Value} (hv : wr.ownsRow w.heap.size 3 1 v n xs) (hf : ∀ k, v.ownBlock = some k → hi ≤ k) (hn : n ≤ 1000000000) (hM : M < 1000000000) : Calls Try.prog 105 #[.pointer (some ⟨BB, 0, none⟩), v] wr fun x w' => x = .returned (.tuple #[]) ∧ Pr w w' B lb bm RB BB PB w'.heap.size w'.heap.size d e (M + 1) ∧ Afr w.heap.size wr w' := by
  obtain ⟨lv, rcv, vb, vs, ln, vi, us, lm, h2, h3, h4, h5, h6, h7, h8, h9, h10⟩ := h.rb
  refine (bookInts_any wr w.heap.size BB vb vs ln vi us lm v n xs h3 hv (fun u hu k hk hk2 => by have := h10 u hu k hk; have := hf k hk2; omega) (by omega) h.below.size).mono ?_
  rintro x w' ⟨e1, vb', e2, e3, e4⟩
  obtain ⟨q1, q2⟩ := Pr.bdone (M' := M + 1) h.dk h2 h3 h.pair h.lo h.below e2 e3 (.inr rfl) h4 (fun j => by split; exact hn; exact h5 j) (by omega) (by simp; omega) h8 (Anew.refl _ _)
  exact ⟨e1, q1, q2⟩
theorem b_own (h : Pr w wr B lb bm RB BB PB av hi d e M) (hM : M ≤ 1000000000) : Calls Try.prog 22 #[.pointer (some ⟨BB, 0, none⟩)] wr fun x w' => x = .returned (.bool true) ∧ Below w.heap.size w w' := by
  obtain ⟨lv, rcv, vb, vs, ln, vi, us, lm, h2, h3, h4, h5, h6, h7, h8, h9, h10⟩ := h.rb
  exact (own_any wr w.heap.size BB vb vs ln vi us lm h3 (fun j => by have := h4 j; omega) (fun j => by have := h5 j; omega) (by omega) (by omega) h.below.size).mono fun x w' ⟨e1, e2⟩ => ⟨e1, h.below.trans e2⟩
end
end Go.Proofs.Ytnplcfgjidolbaa
end
section
namespace Go.Proofs.Ytnplcfgjidolbaa
open Go.RowKit Go.Maps

theorem box_cells {W : World} {AB : Nat} {x0 x1 x2 x3 : Value} (h : W.heap[AB]? = some (.cells #[x0, x1, x2, x3] 178 (0, 0))) :
    W.cell? ⟨AB, 0, none⟩ = some x0 ∧ W.cell? ⟨AB, 1, none⟩ = some x1 ∧ W.cell? ⟨AB, 2, none⟩ = some x2 ∧ W.cell? ⟨AB, 3, none⟩ = some x3 :=
  ⟨(cell_of_row _ _ _ _ _ _ h).trans rfl, (cell_of_row _ _ _ _ _ _ h).trans rfl, (cell_of_row _ _ _ _ _ _ h).trans rfl, (cell_of_row _ _ _ _ _ _ h).trans rfl⟩
theorem Afr.box {base : Nat} {w w' : World} (h : Afr base w w') {AB : Nat} {cs : Array Value} (hb : w.heap[AB]? = some (.cells cs 178 (0, 0))) : w'.heap[AB]? = some (.cells cs 178 (0, 0)) :=
  (h.keep AB _ _ _ hb (by decide) (by decide) (by decide) (by decide) (by decide) (by decide) (by decide) (by decide)).trans hb
theorem OutV.afr {base b0 : Nat} {w w' : World} {v : Value} {o : Option (List UInt8)} (h : OutV w b0 v o) (ha : Afr base w w') : OutV w' b0 v o := by
  cases o with
  | none => exact h
  | some s => exact ⟨h.1, ha.own h.2 (.inl rfl)⟩
/-- What came out of a read, as a row of the call's own. -/
theorem OutV.row {w : World} {b0 : Nat} {v : Value} {o : Option (List UInt8)} (h : OutV w b0 v o) : ∃ n xs, w.ownsRow b0 5 1 v n xs ∧ n ≤ 1000000000 := by
  cases o with
  | none => obtain rfl : v = .slice none 0 0 := h; exact ⟨0, [], World.ownsRow_nil _ _ _ _, by omega⟩
  | some s => exact ⟨256, _, h.2, by omega⟩
theorem OutV.sl {w : World} {b0 : Nat} {v : Value} {o : Option (List UInt8)} (h : OutV w b0 v o) : Sl 0 w.heap.size f8 w v (o.getD []) := by
  cases o with
  | none => obtain rfl : v = .slice none 0 0 := h; exact Sl.nil _ _ _ _
  | some s =>
    have h1 : s.length = 256 := h.1
    exact Sl.mono (Sl.owns (by rw [Option.getD_some, h1]; exact h.2) (by simp only [Option.getD_some]; omega)) (Nat.zero_le _) (Nat.le_refl _)
theorem sameB_refl (l : List UInt8) : sameB l l = true := by simp [sameB]

set_option maxHeartbeats 4000000 in
set_option maxRecDepth 100000 in
theorem does_read {w wr : World} {B lb bm RB BB PB av hi : Nat} {d : Dsk} {M m : Nat} (h : Pr w wr B lb bm RB BB PB av hi d d M) (hb : Bd d m) (hm : m ≤ 5000000) (hM : M ≤ 5000000) (k : Nat) (hk : k % 8 = 0) (a : Int) (dv kv : Value) :
    Calls Try.prog 95 #[.pointer (some ⟨PB, 0, none⟩), .agg #[.int .u8 (k : Int), .int .i64 a, dv, kv]] wr fun x w' => x = .returned (.bool true) ∧ ∃ av hi, Pr w w' B lb bm RB BB PB av hi (d.reads a).1 (d.reads a).1 (M + 1) := by
  have g0 : (((k : Int) % 8) == 0) = true := by simp; omega
  have hr := h.reset wr.heap.size (Nat.le_refl _)
  have hp0 := hr.step ((Below.refl _ _).alloc (Nat.le_refl _) (.cells #[.int .u8 (k : Int), .int .i64 a, dv, kv] 178))
  have hbx0 := heap_alloc_new wr (.cells #[.int .u8 (k : Int), .int .i64 a, dv, kv] 178)
  obtain ⟨y0, y1, y2⟩ := pair_cells hp0.pair
  obtain ⟨x0, x1, x2, x3⟩ := box_cells hbx0
  have HP0 := Lib.hid hp0
  have HBX0 := Lib.hid hbx0
  have HSM := Lib.hid (hb.small (by omega))
  have HT := Lib.hid hb.trip.1
  clear h hr hp0 hbx0 hb hk
  go_enter Try.func95, Try.ntmps95
  go_wp2_with fail
  go_region_held3 (fun w' => w'.cell? ⟨PB, 0, none⟩ = some (.pointer (some ⟨B, 0, none⟩)) ∧ w'.cell? ⟨wr.heap.size, 1, none⟩ = some (.int .i64 a)) (first | assumption | exact ⟨by assumption, by assumption⟩) (first | (go_at_call 39; refine (p_read (HP0.out.step (drew_b _)) HSM.out a).mono ?_; rintro e1 w1 ⟨v, rfl, hp1, ho1, ha1⟩; have hbx1 := ha1.box HBX0.out; obtain ⟨ao1, n1, c1, rfl⟩ := ho1.shape; obtain ⟨z0, z1, z2⟩ := pair_cells hp1.pair; obtain ⟨u0, u1, u2, u3⟩ := box_cells hbx1; have HP1 := Lib.hid hp1; have HO1 := Lib.hid ho1; have HBX1 := Lib.hid hbx1; clear hp1 ho1 ha1 hbx1))
  go_wp2_with fail
  go_region_held3 (fun w' => w'.cell? ⟨PB, 1, none⟩ = some (.pointer (some ⟨RB, 0, none⟩)) ∧ w'.cell? ⟨wr.heap.size, 1, none⟩ = some (.int .i64 a)) (first | assumption | exact ⟨by assumption, by assumption⟩) (first | (go_at_call 98; refine (r_read (HP1.out.step (drew_b _)) HSM.out HT.out a).mono ?_; rintro e1 w2 ⟨v2, rfl, hp2, ho2, ha2⟩; have hbx2 := ha2.box HBX1.out; obtain ⟨ao2, n2, c2, rfl⟩ := ho2.shape; obtain ⟨-, z4, z5⟩ := pair_cells hp2.pair; obtain ⟨-, u4, -, -⟩ := box_cells hbx2; have HP2 := Lib.hid hp2; have HO2 := Lib.hid ho2; have HO3 := Lib.hid ((HO1.out.same (w' := w1.drew) (fun _ _ => rfl)).afr ha2); clear hp2 ho2 ha2 hbx2))
  go_wp2_with (first
    | (go_at_call 16; refine (same_any _ _ _ _ _ _ _ _ _ HO5.out.sl HO4.out.sl).mono ?_; rintro e1 w4 ⟨rfl, n4, rfl⟩)
    | (go_at_call 20; obtain ⟨nb, xb, hrow, hnb⟩ := HO3.out.row; refine (b_bytes HP2.out (own_low hrow (by have := HP0.out.below.size; simpa using this)) (fun q hq => by have := (hrow.lt q hq).1; simp at this; omega) hnb (by omega)).mono ?_; rintro e1 w3 ⟨rfl, hp3, ha3⟩; have HP3 := Lib.hid hp3; have HO4 := Lib.hid (HO2.out.afr ha3); have HO5 := Lib.hid (HO3.out.afr ha3); clear hp3 ha3 hrow))
  go_ret
  rw [sameB_refl]
  exact ⟨rfl, _, _, HP3.out.step (drewN_b _ _)⟩
end Go.Proofs.Ytnplcfgjidolbaa
end
