/- A disk that is not dark and has no trip: its operations. -/
import Derived.Test.YtnplcfgjidolbaaSameI
import Derived.Test.YtnplcfgjidolbaaSame
namespace Go.Proofs.Ytnplcfgjidolbaa
open Go.RowKit Go.Maps

theorem put_calm (d : Dsk) (a : Int) (s : List UInt8) (hd : d.dark = false) (ht : d.trip = -1) (ha : 0 ≤ a ∧ a < (d.ls.length : Int)) (hs : s.length = 256) : d.put a s = ({ d with wr := d.wr + 1, cs := d.cs ++ [(a.toNat, s)] }, 0) := by
  have hb : d.begins = (d, true) := by unfold Dsk.begins; rw [if_neg (by rw [hd]; decide), if_neg (by rw [ht]; decide), if_neg (by rw [ht]; decide)]
  rw [put_eq, hb, if_neg (by simp)]
  unfold Dsk.puts
  rw [if_neg (by simp only; omega), if_neg (by omega)]
theorem reads_calm (d : Dsk) (a : Int) (hd : d.dark = false) (ht : d.trip = -1) (ha : 0 ≤ a ∧ a < (d.ls.length : Int)) : d.reads a = ({ d with rd := d.rd + 1 }, some (d.get a.toNat), 0) := by
  have hb : d.begins = (d, true) := by unfold Dsk.begins; rw [if_neg (by rw [hd]; decide), if_neg (by rw [ht]; decide), if_neg (by rw [ht]; decide)]
  unfold Dsk.reads
  rw [hb, if_neg (by simp), if_neg (by omega)]

/-- The disk, and that all else of the caller's is as it was. -/
def Kd (w wr : World) (B lb bm : Nat) (d : Dsk) : Prop := (∃ cv, Dk wr w.heap.size B lb bm cv d) ∧ Below w.heap.size w wr
section
variable {w wr w' : World} {B lb bm : Nat} {d : Dsk}
theorem Kd.step (h : Kd w wr B lb bm d) (hb : Below wr.heap.size wr w') : Kd w w' B lb bm d := by
  obtain ⟨⟨cv, h1⟩, h2⟩ := h
  exact ⟨⟨cv, h1.below hb⟩, h2.trans (hb.mono h2.size)⟩
theorem ksector (h : Kd w wr B lb bm d) (x : UInt8) (z : Int) (hz : z = W8 x) : Calls Try.prog 33 #[.int .u8 z] wr fun e w' => ∃ v, e = .returned v ∧ Kd w w' B lb bm d ∧ w'.ownsRow w.heap.size 5 1 v (List.replicate 256 x).length ((List.replicate 256 x).map f8) ∧ Dfr w.heap.size wr w' :=
  (sector_any wr x z hz).mono fun e w' ⟨v, h1, h2, h3⟩ => ⟨v, h1, h.step h3, by rw [List.length_replicate]; exact own_low h2 h.2.size, Dfr.ofBelow h3 h.2.size⟩
theorem kwrite (h : Kd w wr B lb bm d) (hs : Small d) (hd : d.dark = false) (ht : d.trip = -1) (a : Int) (ha : 0 ≤ a ∧ a < (d.ls.length : Int)) (v : Value) (s : List UInt8) (hl : s.length = 256) (b0 : Nat) (hv : wr.ownsRow b0 5 1 v s.length (s.map f8)) :
    Calls Try.prog 32 #[.pointer (some ⟨B, 0, none⟩), .int .i64 a, v] wr fun e w' => e = .returned (.int .u16 0) ∧ Kd w w' B lb bm { d with wr := d.wr + 1, cs := d.cs ++ [(a.toNat, s)] } ∧ Dfr w.heap.size wr w' := by
  obtain ⟨⟨cv, h1⟩, h2⟩ := h
  refine (dwrite_any wr w.heap.size B lb bm cv d a v s b0 h1 hv hs).mono ?_
  rintro e w' ⟨he, cv', hd', hf⟩
  rw [put_calm d a s hd ht ha hl] at he hd'
  exact ⟨he, ⟨⟨cv', hd'⟩, h2.trans hf.below⟩, hf⟩
theorem kread (h : Kd w wr B lb bm d) (hs : Small d) (hd : d.dark = false) (ht : d.trip = -1) (a : Int) (ha : 0 ≤ a ∧ a < (d.ls.length : Int)) :
    Calls Try.prog 39 #[.pointer (some ⟨B, 0, none⟩), .int .i64 a] wr fun e w' => ∃ v, e = .returned (.tuple #[v, .int .u16 0]) ∧ Kd w w' B lb bm { d with rd := d.rd + 1 } ∧ w'.ownsRow w.heap.size 5 1 v 256 ((d.get a.toNat).map f8) ∧ (d.get a.toNat).length = 256 ∧ Dfr w.heap.size wr w' := by
  obtain ⟨⟨cv, h1⟩, h2⟩ := h
  refine (dread_any wr w.heap.size B lb bm cv d a h1 hs).mono ?_
  rintro e w' ⟨v, he, hd', hf, ho⟩
  rw [reads_calm d a hd ht ha] at he hd' ho
  exact ⟨v, he, ⟨⟨cv, hd'⟩, h2.trans hf.below⟩, own_low ho.2 h2.size, ho.1, hf⟩
theorem kcut (h : Kd w wr B lb bm d) (hc : d.cs.length ≤ 100000000) (kv : Value) (keep : List Bool) (hkeep : ∀ W, Dfr w.heap.size wr W → Sl 0 W.heap.size fB W kv keep) :
    Calls Try.prog 38 #[.pointer (some ⟨B, 0, none⟩), kv] wr fun e w' => e = .returned (.tuple #[]) ∧ Kd w w' B lb bm { d with ls := settled d.ls d.cs (fun i => keep.getD i false), cs := [], dark := false, trip := -1 } ∧ Dfr w.heap.size wr w' := by
  obtain ⟨⟨cv, h1⟩, h2⟩ := h
  refine (dcut_any wr w.heap.size B lb bm cv d kv keep h1 hc hkeep).mono ?_
  rintro e w' ⟨he, hd', hf⟩
  exact ⟨he, ⟨⟨_, hd'⟩, h2.trans hf.below⟩, hf⟩
theorem kcounts (h : Kd w wr B lb bm d) : Calls Try.prog 36 #[.pointer (some ⟨B, 0, none⟩)] wr fun e w' => e = .returned (.agg #[.int .i64 d.rd, .int .i64 d.wr, .int .i64 d.fl]) ∧ Kd w w' B lb bm d ∧ Dfr w.heap.size wr w' := by
  obtain ⟨⟨cv, h1⟩, h2⟩ := h
  exact (counts_any h1).mono fun e w' ⟨he, hb⟩ => ⟨he, ⟨⟨cv, h1.below hb⟩, h2.trans (hb.mono h2.size)⟩, Dfr.ofBelow hb h2.size⟩
theorem knew (w : World) (n : Int) (h1 : 1 ≤ n) (h2 : n ≤ 16384) : Calls Try.prog 29 #[.int .i64 n] w fun e w' => ∃ B lb bm, e = .returned (.tuple #[.pointer (some ⟨B, 0, none⟩), .int .u16 0]) ∧ Kd w w' B lb bm (newDsk n.toNat) :=
  (dnew_any w n h1 h2).mono fun _ _ ⟨B, lb, bm, he, hd, hb⟩ => ⟨B, lb, bm, he, ⟨_, hd⟩, hb⟩
theorem kdark (h : Kd w wr B lb bm d) : Calls Try.prog 34 #[.pointer (some ⟨B, 0, none⟩)] wr fun e w' => e = .returned (.bool d.dark) ∧ wr = w' := by
  obtain ⟨⟨cv, h1⟩, _⟩ := h
  exact dark_any h1
end
/-- Rows of bytes that are the call's own, compared. -/
theorem ksame {wr : World} {v v' : Value} {s s' : List UInt8} {b b' : Nat} (hv : wr.ownsRow b 5 1 v s.length (s.map f8)) (hl : s.length = 256) (hv' : wr.ownsRow b' 5 1 v' s'.length (s'.map f8)) (hl' : s'.length = 256) :
    Calls Try.prog 16 #[v, v'] wr fun e w' => e = .returned (.bool (sameB s s')) ∧ ∃ n, w' = wr.drewN n :=
  same_any b wr.heap.size b' wr.heap.size wr v v' s s' (Sl.owns hv (by omega)) (Sl.owns hv' (by omega))

/-- Such a disk. -/
def calm (ls : List (List UInt8)) (cs : List (Nat × List UInt8)) (rd wr : Int) : Dsk := ⟨ls, cs, false, -1, rd, wr, 0⟩
structure Nums (ls : List (List UInt8)) (cs : List (Nat × List UInt8)) (rd wr : Int) : Prop where
  ls : ls.length ≤ 16384
  cs : cs.length ≤ 100000000
  rd : 0 ≤ rd ∧ rd ≤ 1000000000
  wr : 0 ≤ wr ∧ wr ≤ 1000000000
theorem Nums.small {ls : List (List UInt8)} {cs : List (Nat × List UInt8)} {rd wr : Int} (h : Nums ls cs rd wr) : Small (calm ls cs rd wr) :=
  ⟨h.ls, h.cs, (by show (-1 : Int) ≤ 9223372036854775807; omega), ⟨h.rd.1, (by show rd < 4611686018427387904; have := h.rd.2; omega)⟩, ⟨h.wr.1, (by show wr < 4611686018427387904; have := h.wr.2; omega)⟩, (by show (0 : Int) ≤ 0 ∧ (0 : Int) < 4611686018427387904; omega)⟩
section
variable {w wr : World} {B lb bm : Nat} {ls : List (List UInt8)} {cs : List (Nat × List UInt8)} {r q : Int}
theorem cwrite (h : Kd w wr B lb bm (calm ls cs r q)) (hn : Nums ls cs r q) (a : Int) (ha : 0 ≤ a ∧ a < (ls.length : Int)) (v : Value) (s : List UInt8) (hl : s.length = 256) (b0 : Nat) (hv : wr.ownsRow b0 5 1 v s.length (s.map f8)) :
    Calls Try.prog 32 #[.pointer (some ⟨B, 0, none⟩), .int .i64 a, v] wr fun e w' => e = .returned (.int .u16 0) ∧ Kd w w' B lb bm (calm ls (cs ++ [(a.toNat, s)]) r (q + 1)) ∧ Dfr w.heap.size wr w' :=
  kwrite h hn.small rfl rfl a ha v s hl b0 hv
theorem cread (h : Kd w wr B lb bm (calm ls cs r q)) (hn : Nums ls cs r q) (a : Int) (ha : 0 ≤ a ∧ a < (ls.length : Int)) (s : List UInt8) (hs : (calm ls cs r q).get a.toNat = s) :
    Calls Try.prog 39 #[.pointer (some ⟨B, 0, none⟩), .int .i64 a] wr fun e w' => ∃ v, e = .returned (.tuple #[v, .int .u16 0]) ∧ Kd w w' B lb bm (calm ls cs (r + 1) q) ∧ w'.ownsRow w.heap.size 5 1 v s.length (s.map f8) ∧ s.length = 256 ∧ Dfr w.heap.size wr w' := by
  refine (kread h hn.small rfl rfl a ha).mono ?_
  rintro e w' ⟨v, h1, h2, h3, h4, h5⟩
  rw [hs] at h3 h4
  exact ⟨v, h1, h2, by rw [h4]; exact h3, h4, h5⟩
theorem ccut (h : Kd w wr B lb bm (calm ls cs r q)) (hn : Nums ls cs r q) (kv : Value) (keep : List Bool) (hkeep : ∀ W, Dfr w.heap.size wr W → Sl 0 W.heap.size fB W kv keep) (ls' : List (List UInt8)) (hs : settled ls cs (fun i => keep.getD i false) = ls') :
    Calls Try.prog 38 #[.pointer (some ⟨B, 0, none⟩), kv] wr fun e w' => e = .returned (.tuple #[]) ∧ Kd w w' B lb bm (calm ls' [] r q) ∧ Dfr w.heap.size wr w' := by
  subst hs
  exact kcut h hn.cs kv keep hkeep
end
end Go.Proofs.Ytnplcfgjidolbaa
