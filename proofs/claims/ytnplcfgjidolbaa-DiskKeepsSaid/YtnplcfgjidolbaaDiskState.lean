/- The program's disk in memory. -/
import Derived.Test.YtnplcfgjidolbaaDiskPlain
import Derived.Test.YtnplcfgjidolbaaOwnApp
import Derived.Test.YtnplcfgjidolbaaChecked
import Derived.Maps.OwnSet
import Derived.Maps.OwnOps
import Derived.Maps.Views
import Derived.Deep.MidRow
namespace Go.Proofs.Ytnplcfgjidolbaa
open Go.RowKit Go.Maps

/-- A sector's cells; a write's. -/
def sec (s : List UInt8) : List Value := s.map f8
def wcl (c : Nat × List UInt8) : List Value := .int .i64 (c.1 : Int) :: sec c.2
theorem sec_len (s : List UInt8) : (sec s).length = s.length := by simp [sec]
theorem wcl_len (c : Nat × List UInt8) : (wcl c).length = c.2.length + 1 := by simp [wcl, sec_len]

/-- Cells one after the other, each part as long. -/
theorem flat_get {α : Type} {g : α → List Value} {m : Nat} (l : List α) (h : ∀ x ∈ l, (g x).length = m) (k j : Nat) (hk : k < l.length) (hj : j < m) : (l.flatMap g)[k * m + j]? = (g l[k])[j]? := by
  induction l generalizing k with
  | nil => simp at hk
  | cons x l ih =>
    have hx := h x (by simp)
    rw [List.flatMap_cons]
    cases k with
    | zero => rw [Nat.zero_mul, Nat.zero_add, List.getElem?_append_left (by omega)]; rfl
    | succ k =>
      rw [List.getElem?_append_right (by rw [Nat.succ_mul]; omega), hx, show (k + 1) * m + j - m = k * m + j from by rw [Nat.succ_mul]; omega]
      exact ih (fun y hy => h y (by simp [hy])) k (by simpa using hk)
theorem flat_len {α : Type} {g : α → List Value} {m : Nat} (l : List α) (h : ∀ x ∈ l, (g x).length = m) : (l.flatMap g).length = l.length * m := by
  induction l with
  | nil => simp
  | cons x l ih => rw [List.flatMap_cons, List.length_append, h x (by simp), ih (fun y hy => h y (by simp [hy])), List.length_cons, Nat.succ_mul]; omega
theorem flat_set {α : Type} {g : α → List Value} {m : Nat} (l : List α) (h : ∀ x ∈ l, (g x).length = m) (k : Nat) (x : α) (hk : k < l.length) :
    (l.set k x).flatMap g = (l.flatMap g).take (k * m) ++ g x ++ (l.flatMap g).drop (k * m + m) := by
  induction l generalizing k with
  | nil => simp at hk
  | cons y l ih =>
    have hy := h y (by simp)
    cases k with
    | zero => simp [List.flatMap_cons, hy]
    | succ k =>
      have e1 : ((y :: l).flatMap g).take ((k + 1) * m) = g y ++ (l.flatMap g).take (k * m) := by
        rw [List.flatMap_cons, show (k + 1) * m = (g y).length + k * m from by rw [Nat.succ_mul, hy]; omega, List.take_length_add_append]
      have e2 : ((y :: l).flatMap g).drop ((k + 1) * m + m) = (l.flatMap g).drop (k * m + m) := by
        rw [List.flatMap_cons, show (k + 1) * m + m = (g y).length + (k * m + m) from by rw [Nat.succ_mul, hy]; omega, List.drop_length_add_append]
      rw [e1, e2, List.set_cons_succ, List.flatMap_cons, ih (fun z hz => h z (by simp [hz])) k (by simpa using hk)]
      simp [List.append_assoc]

/-- Cells stored one by one. -/
theorem heap_setCells (w : World) (b : Nat) (t : TypeId) : ∀ (vs : List Value) (o : Nat) (cur : Array Value), w.heap[b]? = some (.cells cur t (0, 0)) → o + vs.length ≤ cur.size →
    (w.setCells b o vs).heap[b]? = some (.cells (cur.toList.take o ++ vs ++ cur.toList.drop (o + vs.length)).toArray t (0, 0)) := by
  intro vs
  induction vs generalizing w with
  | nil => intro o cur h _; simp [World.setCells, h]
  | cons v vs ih =>
    intro o cur h ho
    simp only [List.length_cons] at ho
    rw [World.setCells, ih (w.setCell ⟨b, o, none⟩ v) (o + 1) (cur.setIfInBounds o v) (heap_setCell_same w b o cur t v h) (by simp; omega)]
    congr 2
    have e : (cur.setIfInBounds o v).toList = cur.toList.set o v := by simp
    rw [e, List.take_succ_eq_append_getElem (by simp; omega)]
    simp only [List.getElem_set_self, List.length_cons]
    rw [List.take_set_of_le (Nat.le_refl _), List.drop_set_of_lt (by omega), show o + 1 + vs.length = o + (vs.length + 1) from by omega]
    simp
theorem heap_setCells_other' (b : Nat) : ∀ (vs : List Value) (o : Nat) (w : World) (k : Nat), k ≠ b → (w.setCells b o vs).heap[k]? = w.heap[k]? := by
  intro vs
  induction vs with
  | nil => intro o w k _; rfl
  | cons v vs ih => intro o w k hk; rw [World.setCells, ih _ _ _ hk, heap_setCell_other _ _ _ _ hk]
theorem setCells_rest (b : Nat) : ∀ (vs : List Value) (o : Nat) (w : World), (w.setCells b o vs).os = w.os ∧ (w.setCells b o vs).tape = w.tape ∧ (w.setCells b o vs).output = w.output ∧ (w.setCells b o vs).heap.size = w.heap.size := by
  intro vs
  induction vs with
  | nil => intro o w; exact ⟨rfl, rfl, rfl, rfl⟩
  | cons v vs ih =>
    intro o w
    rw [World.setCells]
    obtain ⟨h1, h2, h3, h4⟩ := ih (o + 1) (w.setCell ⟨b, o, none⟩ v)
    exact ⟨by rw [h1]; rfl, by rw [h2]; rfl, by rw [h3]; rfl, by rw [h4]; simp⟩

theorem und161 : Try.prog.underlying 161 = some (.map 3 3) := by kernel_rfl
theorem und3 : Try.prog.underlying 3 = some (.int .i64) := by kernel_rfl
/-- The map says which write is a sector's last. -/
def Seen (D : DataW Unit) (cs : List (Nat × List UInt8)) : Prop :=
  IsMap D ∧ ∀ a : Nat, Maps.has D (.int .i64 (a : Int)) = (lastOf cs a).isSome ∧ ∀ j, lastOf cs a = some j → D.atKey (.int .i64 (a : Int)) (.lit (.int .i64 0)) = .lit (.int .i64 (j : Int))
theorem seen_nil : Seen (.map []) [] := ⟨isMap_empty, fun a => ⟨rfl, fun j h => by cases h⟩⟩
theorem seen_snoc {D : DataW Unit} {cs : List (Nat × List UInt8)} (h : Seen D cs) (b : Nat) (s : List UInt8) : Seen (D.put (.int .i64 (b : Int)) (.lit (.int .i64 (cs.length : Int)))) (cs ++ [(b, s)]) := by
  refine ⟨h.1.put _ _, fun a => ?_⟩
  rw [lastOf_snoc]
  by_cases hb : b = a
  · subst hb
    rw [if_pos rfl]
    refine ⟨has_put_same h.1 (by constructor) _, fun j hj => ?_⟩
    injection hj with hj
    subst hj
    exact atKey_put_same h.1 (by constructor) _ _
  · rw [if_neg hb]
    have hne : (Lit.int .i64 (a : Int)) ≠ .int .i64 (b : Int) := by intro e; injection e with _ e; omega
    rw [has_put_other hne]
    refine ⟨(h.2 a).1, fun j hj => ?_⟩
    rw [atKey_put_other hne]
    exact (h.2 a).2 j hj

/-- The disk's own eight cells. -/
def dkTop (lb bm : Nat) (cv : Value) (d : Dsk) : Array Value := #[.slice (some ⟨lb, 0, none⟩) d.ls.length d.ls.length, cv, .map (some bm), .bool d.dark, .int .i64 d.trip, .int .i64 d.rd, .int .i64 d.wr, .int .i64 d.fl]
/-- The disk at block B. -/
structure Dk (w : World) (base B lb bm : Nat) (cv : Value) (d : Dsk) : Prop where
  top : w.heap[B]? = some (.cells (dkTop lb bm cv d) 164 (0, 0))
  las : w.heap[lb]? = some (.cells (d.ls.flatMap sec).toArray 168 (0, 0))
  cache : w.ownsRow base 170 257 cv d.cs.length (d.cs.flatMap wcl)
  seen : ∃ D : DataW Unit, w.ownsMap Try.prog 3 (plainElem Try.prog 3) bm d.cs.length D ∧ Seen D d.cs
  ok : d.ok
  lo : base ≤ B ∧ base ≤ lb ∧ base ≤ bm

/-- What of the old blocks is the disk's may turn, and nothing else. -/
structure Dfr (base : Nat) (w w' : World) : Prop where
  below : Below base w w'
  keep : ∀ (k : Nat) cs t fr, w.heap[k]? = some (.cells cs t fr) → t ≠ 164 → t ≠ 168 → t ≠ 170 → w'.heap[k]? = w.heap[k]?
theorem Dfr.refl (base : Nat) (w : World) : Dfr base w w := ⟨Below.refl _ _, fun _ _ _ _ _ _ _ _ => rfl⟩
theorem Dfr.trans {base : Nat} {a b c : World} (h : Dfr base a b) (k : Dfr base b c) : Dfr base a c :=
  ⟨h.below.trans k.below, fun i cs t fr hi h1 h2 h3 => (k.keep i cs t fr ((h.keep i cs t fr hi h1 h2 h3).trans hi) h1 h2 h3).trans (h.keep i cs t fr hi h1 h2 h3)⟩
theorem heap_lt' {w : World} {B : Nat} {o : Obj} (h : w.heap[B]? = some o) : B < w.heap.size := by
  rcases Nat.lt_or_ge B w.heap.size with h2 | h2
  · exact h2
  · rw [Array.getElem?_eq_none h2] at h; cases h
theorem Dfr.ofBelow {base : Nat} {w w' : World} (h : Below w.heap.size w w') (hb : base ≤ w.heap.size) : Dfr base w w' :=
  ⟨h.mono hb, fun i _ _ _ hi _ _ _ => h.block i (heap_lt' hi)⟩
theorem Dfr.alloc {base : Nat} {w : World} (o : Obj) (hb : base ≤ w.heap.size) : Dfr base w (w.alloc o) := Dfr.ofBelow ((Below.refl _ _).alloc (Nat.le_refl _) _) hb
theorem Dfr.own {base base' : Nat} {w w' : World} (h : Dfr base w w') {e : TypeId} {s : Nat} {v : Value} {n : Nat} {xs : List Value} (hv : w.ownsRow base' e s v n xs) (h1 : e ≠ 164) (h2 : e ≠ 168) (h3 : e ≠ 170) : w'.ownsRow base' e s v n xs := by
  obtain ⟨k1, ⟨rfl, k2⟩ | ⟨g, cap, cur, rfl, k3, k4, k5⟩⟩ := hv
  · exact ⟨k1, .inl ⟨rfl, k2⟩⟩
  · exact ⟨k1, .inr ⟨g, cap, cur, rfl, k3, (h.keep g cur e _ k4 h1 h2 h3).trans k4, k5⟩⟩
/-- One block of the disk's is written. -/
theorem Dfr.one {base : Nat} {w w' : World} {B : Nat} {cs : Array Value} {t : TypeId} (hB : w.heap[B]? = some (.cells cs t (0, 0))) (ht : t = 164 ∨ t = 168 ∨ t = 170) (hb : base ≤ B) (h1 : w'.os = w.os) (h2 : w'.tape = w.tape) (h3 : w'.output = w.output) (h4 : w'.heap.size = w.heap.size) (h5 : ∀ k, k ≠ B → w'.heap[k]? = w.heap[k]?) : Dfr base w w' :=
  ⟨⟨h1, h2, h3, Nat.le_of_eq h4.symm, fun k hk => h5 k (by omega)⟩, fun k cs' t' fr hk a1 a2 a3 => h5 k (fun e => by
    subst e
    rw [hB] at hk
    injection hk with hk
    injection hk with _ hk
    subst hk
    rcases ht with h | h | h
    · exact a1 h
    · exact a2 h
    · exact a3 h)⟩

section
variable {w w' : World} {base B lb bm : Nat} {cv : Value} {d : Dsk}
theorem Dk.below (h : Dk w base B lb bm cv d) (hb : Below w.heap.size w w') : Dk w' base B lb bm cv d := by
  obtain ⟨D, h1, h2⟩ := h.seen
  exact ⟨(hb.block B (heap_lt' h.top)).trans h.top, (hb.block lb (heap_lt' h.las)).trans h.las, by
    obtain ⟨k1, ⟨k0, k2⟩ | ⟨g, cap, cur, k0, k3, k4, k5⟩⟩ := h.cache
    · exact ⟨k1, .inl ⟨k0, k2⟩⟩
    · exact ⟨k1, .inr ⟨g, cap, cur, k0, k3, (hb.block g (heap_lt' k4)).trans k4, k5⟩⟩,
    ⟨D, by obtain ⟨es, cl, e1, e2⟩ := h1; exact ⟨es, cl, (hb.block bm (heap_lt' e1)).trans e1, e2⟩, h2⟩, h.ok, h.lo⟩
theorem Dk.ne (h : Dk w base B lb bm cv d) : B ≠ lb ∧ B ≠ bm ∧ lb ≠ bm ∧ cv.ownBlock ≠ some B ∧ cv.ownBlock ≠ some lb ∧ cv.ownBlock ≠ some bm := by
  obtain ⟨D, ⟨es, cl, hm, _⟩, _⟩ := h.seen
  have hc : ∀ k, cv.ownBlock = some k → ∃ cur, w.heap[k]? = some (.cells cur 170 (0, 0)) := by
    intro k hk
    obtain ⟨_, ⟨k0, _⟩ | ⟨g, cap, cur, k0, _, k4, _⟩⟩ := h.cache
    · rw [k0] at hk; cases hk
    · rw [k0] at hk
      have : g = k := by injection hk
      exact ⟨cur, by rw [← this]; exact k4⟩
  have h1 := h.top
  have h2 := h.las
  refine ⟨fun e => ?_, fun e => ?_, fun e => ?_, fun e => ?_, fun e => ?_, fun e => ?_⟩
  · subst e; rw [h1] at h2; injection h2 with h2; injection h2 with _ h2; cases h2
  · subst e; rw [h1] at hm; cases hm
  · subst e; rw [h2] at hm; cases hm
  · obtain ⟨cur, hcur⟩ := hc _ e; rw [h1] at hcur; injection hcur with hcur; injection hcur with _ hcur; cases hcur
  · obtain ⟨cur, hcur⟩ := hc _ e; rw [h2] at hcur; injection hcur with hcur; injection hcur with _ hcur; cases hcur
  · obtain ⟨cur, hcur⟩ := hc _ e; rw [hm] at hcur; cases hcur
/-- Only the disk's own cells are written. -/
theorem Dk.retop (h : Dk w base B lb bm cv d) {dark : Bool} {trip rd wr fl : Int} (hB : w'.heap[B]? = some (.cells (dkTop lb bm cv { d with dark := dark, trip := trip, rd := rd, wr := wr, fl := fl }) 164 (0, 0))) (hs : ∀ k, k ≠ B → w'.heap[k]? = w.heap[k]?) :
    Dk w' base B lb bm cv { d with dark := dark, trip := trip, rd := rd, wr := wr, fl := fl } := by
  obtain ⟨n1, n2, n3, n4, n5, n6⟩ := h.ne
  obtain ⟨D, h1, h2⟩ := h.seen
  exact ⟨hB, (hs lb (fun e => n1 e.symm)).trans h.las, by
    obtain ⟨k1, ⟨k0, k2⟩ | ⟨g, cap, cur, k0, k3, k4, k5⟩⟩ := h.cache
    · exact ⟨k1, .inl ⟨k0, k2⟩⟩
    · exact ⟨k1, .inr ⟨g, cap, cur, k0, k3, (hs g (fun e => n4 (by rw [k0, ← e]; rfl))).trans k4, k5⟩⟩,
    ⟨D, by obtain ⟨es, cl, e1, e2⟩ := h1; exact ⟨es, cl, (hs bm (fun e => n2 e.symm)).trans e1, e2⟩, h2⟩, h.ok, h.lo⟩
theorem Dk.cells (h : Dk w base B lb bm cv d) : w.cell? ⟨B, 0, none⟩ = some (.slice (some ⟨lb, 0, none⟩) d.ls.length d.ls.length) ∧ w.cell? ⟨B, 1, none⟩ = some cv ∧ w.cell? ⟨B, 2, none⟩ = some (.map (some bm)) ∧ w.cell? ⟨B, 3, none⟩ = some (.bool d.dark) ∧ w.cell? ⟨B, 4, none⟩ = some (.int .i64 d.trip) ∧
    w.cell? ⟨B, 5, none⟩ = some (.int .i64 d.rd) ∧ w.cell? ⟨B, 6, none⟩ = some (.int .i64 d.wr) ∧ w.cell? ⟨B, 7, none⟩ = some (.int .i64 d.fl) ∧ ∀ j, w.frozen? ⟨B, j, none⟩ = false :=
  ⟨(cell_of_row _ _ _ _ _ _ h.top).trans rfl, (cell_of_row _ _ _ _ _ _ h.top).trans rfl, (cell_of_row _ _ _ _ _ _ h.top).trans rfl, (cell_of_row _ _ _ _ _ _ h.top).trans rfl, (cell_of_row _ _ _ _ _ _ h.top).trans rfl, (cell_of_row _ _ _ _ _ _ h.top).trans rfl, (cell_of_row _ _ _ _ _ _ h.top).trans rfl, (cell_of_row _ _ _ _ _ _ h.top).trans rfl, fun _ => frozen_of_row _ _ _ _ _ h.top⟩
/-- A lasting sector's cells. -/
theorem Dk.sector (h : Dk w base B lb bm cv d) (a : Nat) (ha : a < d.ls.length) : w.rangeAt lb (a * 256) (sec d.ls[a]) := by
  intro j v hv
  have hl : (sec d.ls[a]).length = 256 := by rw [sec_len]; exact h.ok.1 _ (List.getElem_mem ha)
  have hj : j < 256 := by have := (List.getElem?_eq_some_iff.1 hv).1; omega
  rw [cell_of_row _ _ _ _ _ _ h.las]
  have := flat_get (g := sec) (m := 256) d.ls (fun s hs => by rw [sec_len]; exact h.ok.1 s hs) a j ha hj
  rw [hv] at this
  simpa using this
/-- A write's cells in the cache. -/
theorem Dk.write (h : Dk w base B lb bm cv d) {g cap : Nat} (hcv : cv = .slice (some ⟨g, 0, none⟩) d.cs.length cap) (k : Nat) (hk : k < d.cs.length) : w.rangeAt g (k * 257) (wcl d.cs[k]) := by
  intro j v hv
  have hl : (wcl d.cs[k]).length = 257 := by rw [wcl_len, (h.ok.2 _ (List.getElem_mem hk)).1]
  have hj : j < 257 := by have := (List.getElem?_eq_some_iff.1 hv).1; omega
  have hc := h.cache
  subst hcv
  rw [hc.cellAt (k * 257 + j) (by
    have : (k + 1) * 257 ≤ d.cs.length * 257 := Nat.mul_le_mul_right _ hk
    omega)]
  have := flat_get (g := wcl) (m := 257) d.cs (fun c hc => by rw [wcl_len, (h.ok.2 c hc).1]) k j hk hj
  rw [hv] at this
  exact this
end
end Go.Proofs.Ytnplcfgjidolbaa
