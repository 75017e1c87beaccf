/- append of as many noughts as a make has, to a slice of the call's own; append to a literal. -/
import Derived.Test.YtckmeomhcikmoaaApp
import Derived.Laws.AppendOwn
import Derived.Lib.AppendZerosOnto
namespace Go.Proofs.Ytckmeomhcikmoaa
open Go.RowKit

theorem zeroCells_one (z : Value) (n : Nat) : Builtin.zeroCells #[z] n = (List.replicate n z).toArray := by
  unfold Builtin.zeroCells
  apply Array.ext'
  apply List.ext_getElem?
  intro i
  by_cases h : i < n
  · simp [h, Nat.mod_one]
  · simp [h]

/-- append(v, make([]T, k)...) of a row of the call's own. -/
theorem run_append_own_zeros {P : Program} (w : World) (base : Nat) (t tn ty e : TypeId) (i : TypeInfo) (z : Value) (bytes : Nat) (kq kn : IntKind) (ht : P.underlying t = some (.slice e)) (htn : P.underlying tn = some (.int kn)) (hi : P.info? e = some i) (hz : i.zero = some z)
    (hsize : i.size = 1) (hby : i.bytes = bytes) (hzs : z.cells = #[z]) (hz1 : z.oneCell' = true)
    (v : Value) (n : Nat) (xs : List Value) (hown : w.ownsRow base e 1 v n xs) (k : Nat) (h63 : n + k ≤ maxLen) (hbytes : (n + k) * bytes ≤ 140737488355328) (hbase : base ≤ w.heap.size) :
    ∃ v' w', (Builtin.append_ #[t, tn] ty #[v, .int kq k]).run P w = .ok v' w' ∧ w'.ownsRow base e 1 v' (n + k) (xs ++ List.replicate k z) ∧ w.grownBy w' v.ownBlock := by
  subst hby
  have hlen : (xs ++ List.replicate k z).length = (n + k) * 1 := by rw [List.length_append, hown.1, List.length_replicate]; omega
  have hw : IntKind.i64.wrap (k : Int) = k := by rw [IntKind.wrap_i64]; simp only [maxLen] at h63; omega
  have h48i : ¬ (281474976710656 < (k : Int) * (i.bytes : Int)) := by
    have h1 : k * i.bytes ≤ (n + k) * i.bytes := Nat.mul_le_mul_right _ (Nat.le_add_left _ _)
    rw [← Int.natCast_mul]
    omega
  have hneg : ¬ ((k : Int) < 0) := by omega
  by_cases hk : k = 0
  · subst hk
    refine ⟨v, w, ?_, by simpa using hown, World.grownBy.refl _ _⟩
    rcases hown.2 with ⟨rfl, rfl⟩ | ⟨g, cap, cur, rfl, _, hg, hnc, _⟩
    · simp [Builtin.append_, run_underlying ht, run_underlying htn, sizeOf, typeInfo, hi, asInt, asIntOf, IntKind.wrap_i64]
    · simp [Builtin.append_, run_underlying ht, run_underlying htn, sizeOf, typeInfo, hi, asInt, asIntOf, hnc, storeCells, IntKind.wrap_i64]
  have hns : ¬ (k * i.size = 0) := by rw [hsize]; omega
  have grown : ∀ (old : Nat), old < n + k → ∀ (row : Option Nat),
      (w.drew.alloc (.cells (xs.toArray ++ Builtin.zeroCells z.cells k ++ Builtin.zeroCells z.cells (grownCap w (n + k) old e - (n + k))) e)).ownsRow base e 1
        (.slice (some ⟨w.heap.size, 0, none⟩) (n + k) (grownCap w (n + k) old e)) (n + k) (xs ++ List.replicate k z) ∧
      w.grownBy (w.drew.alloc (.cells (xs.toArray ++ Builtin.zeroCells z.cells k ++ Builtin.zeroCells z.cells (grownCap w (n + k) old e - (n + k))) e)) row := by
    intro old ho row
    have hge := grownCap_ge w (n + k) old e
    have hcm : grownCap w (n + k) old e ≤ maxLen := grownCap_le_maxLen w (n + k) old e h63
    rw [hzs, zeroCells_one, zeroCells_one]
    refine ⟨⟨hlen, .inr ⟨w.heap.size, _, _, rfl, hbase, heap_alloc_new w.drew _, hge, hcm, ?_, ?_⟩⟩, ⟨rfl, rfl, rfl, by simp, fun k' hk' _ => heap_alloc_old w.drew _ hk'⟩⟩
    · simp only [Array.size_append, List.size_toArray, List.length_replicate, hown.1]
      omega
    · simp only [Array.toList_append]
      rw [← hlen]
      exact List.take_left
  have h63' : ((n + k : Nat) : Int) ≤ 9223372036854775807 := by simp only [maxLen] at h63; omega
  have hkb : k * i.bytes ≤ 281474976710656 := by
    have h1 : k * i.bytes ≤ (n + k) * i.bytes := Nat.mul_le_mul_right _ (Nat.le_add_left _ _)
    omega
  rcases hown.2 with ⟨rfl, rfl⟩ | ⟨g, cap, cur, rfl, hbg, hg, hnc, hcm, hcs, htake⟩
  · have hx : xs = [] := List.eq_nil_of_length_eq_zero (by simpa using hown.1)
    subst hx
    have hr := Lib.run_append_grow_zeros (P := P) w t tn ty e i z kq kn ht htn hi hz none 0 0 [] (by rw [run_firstCells_none]) k (by omega) (by omega) (by omega) h63' hkb (growslice_fits (by omega) hbytes)
    have hgr := grown 0 (by omega) (Value.ownBlock (.slice none 0 0))
    exact ⟨_, _, hr, hgr.1, hgr.2⟩
  · by_cases hroom : n + k ≤ cap
    · have hfit : n + k ≤ cur.size := by omega
      have hst := run_storeCells_at P g n e (List.replicate k z) 0 cur w hg (by simpa using hfit) (by intro u hu; rw [List.eq_of_mem_replicate hu]; exact hz1)
      simp only [Nat.add_zero] at hst
      have hr : (Builtin.append_ #[t, tn] ty #[.slice (some ⟨g, 0, none⟩) n cap, .int kq k]).run P w = .ok (.slice (some ⟨g, 0, none⟩) (n + k) cap) (w.setRow g (cur.toList.take n ++ List.replicate k z ++ cur.toList.drop (n + (List.replicate k z).length)).toArray) := by
        simp [Builtin.append_, run_underlying ht, run_underlying htn, sizeOf, typeInfo, zeroValue, hi, hz, asInt, asIntOf, hw, hneg, h48i, hsize, hk, hroom, hzs, zeroCells_one, Addr.add_lit]
        have hst' : Sem.run P (storeCells { block := g, off := n } (List.replicate k z)) w = Result.ok () (w.setRow g (List.take n cur.toList ++ (List.replicate k z ++ List.drop (n + k) cur.toList)).toArray) := by simpa using hst
        rw [hst']
        rfl
      refine ⟨_, _, hr, ⟨hlen, .inr ⟨g, cap, _, rfl, hbg, setRow_heap w g cur _ e _ hg, hroom, hcm, ?_, ?_⟩⟩, ⟨rfl, rfl, rfl, by simp, fun k hk _ => ?_⟩⟩
      · simp only [List.size_toArray, List.length_append, List.length_take, List.length_drop, Array.length_toList, List.length_replicate]
        omega
      · have e1 : cur.toList.take n = xs := by rw [← htake, Nat.mul_one]
        rw [e1, ← hlen]
        exact List.take_left
      · rename_i hne
        exact setRow_other w g k _ (fun e => hne (by simp [Value.ownBlock, e]))
    · have holds : ∀ j u, xs[j]? = some u → w.cell? ((⟨g, 0, none⟩ : Addr).add j) = some u := hown.cells (g := g) rfl
      have hf := run_firstCells_some (P := P) w.drew i.size n ⟨g, 0, none⟩ n cap xs (by rw [hsize]; exact hown.1) (by simpa using holds)
      have hr := Lib.run_append_grow_zeros (P := P) w t tn ty e i z kq kn ht htn hi hz (some ⟨g, 0, none⟩) n cap xs hf k (by omega) (by omega) (by omega) h63' hkb (growslice_fits (by omega) hbytes)
      have hgr := grown cap (by omega) (Value.ownBlock (.slice (some ⟨g, 0, none⟩) n cap))
      exact ⟨_, _, hr, hgr.1, hgr.2⟩

/-- A slice that may be appended to: one of the call's own, or one without room whose cells are known. -/
def Onto (w : World) (base : Nat) (e : TypeId) (v : Value) (n : Nat) (xs : List Value) : Prop :=
  w.ownsRow base e 1 v n xs ∨ ∃ g, v = .slice (some ⟨g, 0, none⟩) n n ∧ base ≤ g ∧ g < w.heap.size ∧ n ≤ maxLen ∧ xs.length = n ∧ ∀ j u, xs[j]? = some u → w.cell? ((⟨g, 0, none⟩ : Addr).add j) = some u

theorem Onto.own {w : World} {base : Nat} {e : TypeId} {v : Value} {n : Nat} {xs : List Value} (h : w.ownsRow base e 1 v n xs) : Onto w base e v n xs := .inl h
/-- A literal, just laid. -/
theorem Onto.lit (w : World) {base : Nat} (hb : base ≤ w.heap.size) (e t : TypeId) (cs : Array Value) (n : Nat) (xs : List Value) (hn : n = xs.length) (hx : xs.toArray = cs) (hm : n ≤ maxLen) (fr : Nat × Nat := (0, 0)) :
    Onto (w.alloc (.cells cs t fr)) base e (.slice (some ⟨w.heap.size, 0, none⟩) n n) n xs := by
  subst hx hn
  refine .inr ⟨w.heap.size, rfl, hb, by simp, hm, rfl, fun j u hu => ?_⟩
  rw [Addr.add_lit, cell_of_row _ _ _ _ _ _ (heap_alloc_new w _), Nat.zero_add]
  simpa using hu
theorem Onto.len {w : World} {base : Nat} {e : TypeId} {v : Value} {n : Nat} {xs : List Value} (h : Onto w base e v n xs) : xs.length = n := by
  rcases h with h | ⟨_, _, _, _, _, h, _⟩
  · simpa using h.1
  · exact h
theorem Onto.row {w : World} {base : Nat} {e : TypeId} {v : Value} {n : Nat} {xs : List Value} (h : Onto w base e v n xs) : ∀ k, v.ownBlock = some k → base ≤ k ∧ k < w.heap.size := by
  rcases h with h | ⟨g, rfl, h1, h2, _⟩
  · exact h.lt
  · intro k hk
    simp [Value.ownBlock] at hk
    subst hk
    exact ⟨h1, h2⟩
theorem Onto.kept {w w' : World} {base : Nat} {e : TypeId} {v : Value} {n : Nat} {xs : List Value} (h : Onto w base e v n xs) {row : Option Nat} (hg : w.grownBy w' row) (hne : v.ownBlock = none ∨ v.ownBlock ≠ row) : Onto w' base e v n xs := by
  rcases h with h | ⟨g, rfl, h1, h2, h3, h4, h5⟩
  · exact .inl (h.kept hg hne)
  · refine .inr ⟨g, rfl, h1, Nat.lt_of_lt_of_le h2 hg.size, h3, h4, fun j u hu => ?_⟩
    have := h5 j u hu
    rw [Addr.add_lit] at this ⊢
    refine (World.cell?_of_block (hg.block g h2 ?_)).trans this
    simpa [Value.ownBlock] using hne
theorem Onto.alloc {w : World} {base : Nat} {e : TypeId} {v : Value} {n : Nat} {xs : List Value} (h : Onto w base e v n xs) (o : Obj) : Onto (w.alloc o) base e v n xs := h.kept (World.grownBy_alloc w o none) (by cases hv : v.ownBlock <;> simp)
theorem Onto.sl {w : World} {base : Nat} {e : TypeId} {v : Value} {l : List UInt8} (h : Onto w base e v l.length (l.map f8)) (hl : l.length ≤ 140737488355328) : Sl base w.heap.size f8 w v l := by
  rcases h with h | ⟨g, rfl, h1, h2, h3, h4, h5⟩
  · exact Sl.owns h hl
  · refine ⟨_, _, rfl, hl, (fun h => by cases h), fun _ => ⟨g, 0, rfl, h1, h2, fun j hj => ?_⟩, Nat.le_refl _⟩
    have := h5 j (f8 l[j]) (by rw [List.getElem?_map, List.getElem?_eq_getElem hj]; rfl)
    rwa [Addr.add_lit] at this

theorem append_onto {P : Program} (w : World) (base : Nat) (t ty e : TypeId) (i : TypeInfo) (z : Value) (bytes : Nat) (ht : P.underlying t = some (.slice e)) (hi : P.info? e = some i) (hz : i.zero = some z)
    (hsize : i.size = 1) (hby : i.bytes = bytes) (hzs : z.cells.size = 1)
    (v : Value) (n : Nat) (xs : List Value) (hown : Onto w base e v n xs)
    {α : Type} {lo hi' : Nat} {f : α → Value} (ao : Option Addr) (cap : Nat) (l : List α) (hsl : SlC lo hi' f w ao cap l) (h1 : ∀ u ∈ l.map f, u.oneCell' = true)
    (h63 : n + l.length ≤ maxLen) (hbytes : (n + l.length) * bytes ≤ 140737488355328) (hbase : base ≤ w.heap.size) :
    ∃ v' w', (Builtin.append_ #[t, t] ty #[v, .slice ao l.length cap]).run P w = .ok v' w' ∧ Onto w' base e v' (n + l.length) (xs ++ l.map f) ∧ (l ≠ [] → w'.ownsRow base e 1 v' (n + l.length) (xs ++ l.map f)) ∧ w.grownBy w' v.ownBlock := by
  subst hby
  cases hll : l with
  | nil =>
    subst hll
    refine ⟨v, w, ?_, by simpa using hown, fun h => absurd rfl h, World.grownBy.refl _ _⟩
    have hf : (Builtin.firstCells 1 0 (.slice ao 0 cap)).run P w = .ok #[] w := by
      cases ao <;> simp [Builtin.firstCells, loadCells, loadCellsFrom]
    rcases hown with h | ⟨g, rfl, _⟩
    · rcases h.2 with ⟨rfl, rfl⟩ | ⟨g, c, cur, rfl, _, hg, hnc, _⟩
      · simp [Builtin.append_, run_underlying ht, sizeOf, typeInfo, hi, Builtin.lenOf, hsize, hf]
      · simp [Builtin.append_, run_underlying ht, sizeOf, typeInfo, hi, Builtin.lenOf, hnc, hsize, hf, storeCells]
    · simp [Builtin.append_, run_underlying ht, sizeOf, typeInfo, hi, Builtin.lenOf, hsize, hf, storeCells]
  | cons a l' =>
    rw [← hll]
    obtain ⟨b, off, rfl, _, _, _⟩ := hsl.cells (by rw [hll]; simp)
    have hpos : 0 < l.length := by rw [hll]; simp
    rcases hown with h | ⟨g, rfl, hb1, hb2, hb3, hb4, hb5⟩
    · obtain ⟨v', w', k1, k2, k3, _⟩ := run_append_own (P := P) w base t ty e i z 1 i.bytes ht hi hz hsize rfl hzs (by decide) v n xs h ⟨b, off, none⟩ l.length cap (l.map f) (by simp) (hsl.news _ rfl) h1 h63 hbytes hbase
      exact ⟨v', w', k1, .inl k2, fun _ => k2, k3⟩
    · have hr := run_append_grow (P := P) w t ty e i z ht hi hz ⟨g, 0, none⟩ n n xs (by rw [hsize]; omega) hb5 ⟨b, off, none⟩ l.length cap (l.map f) (by rw [hsize]; simp) (hsl.news _ rfl) (by omega) (by simp only [maxLen] at h63; omega) (growslice_fits (by omega) hbytes)
      have hge := grownCap_ge w (n + l.length) n e
      have hcm : grownCap w (n + l.length) n e ≤ maxLen := grownCap_le_maxLen w (n + l.length) n e h63
      have hlen : (xs ++ l.map f).length = (n + l.length) * 1 := by rw [List.length_append, hb4, List.length_map, Nat.mul_one]
      have k2 : (w.drew.alloc (.cells (xs.toArray ++ (l.map f).toArray ++ Builtin.zeroCells z.cells (grownCap w (n + l.length) n e - (n + l.length))) e)).ownsRow base e 1 (.slice (some ⟨w.heap.size, 0, none⟩) (n + l.length) (grownCap w (n + l.length) n e)) (n + l.length) (xs ++ l.map f) := by
        refine ⟨hlen, .inr ⟨w.heap.size, _, _, rfl, hbase, heap_alloc_new w.drew _, hge, hcm, ?_, ?_⟩⟩
        · simp only [Array.size_append, List.size_toArray, size_zeroCells, hzs, hb4, List.length_map]
          omega
        · simp only [Array.toList_append, List.append_assoc]
          rw [← List.append_assoc, ← hlen]
          exact List.take_left
      exact ⟨_, _, hr, .inl k2, fun _ => k2, ⟨rfl, rfl, rfl, by simp, fun k hk _ => heap_alloc_old w.drew _ hk⟩⟩

theorem append_onto_zeros {P : Program} (w : World) (base : Nat) (t tn ty e : TypeId) (i : TypeInfo) (z : Value) (bytes : Nat) (kq kn : IntKind) (ht : P.underlying t = some (.slice e)) (htn : P.underlying tn = some (.int kn)) (hi : P.info? e = some i) (hz : i.zero = some z)
    (hsize : i.size = 1) (hby : i.bytes = bytes) (hzs : z.cells = #[z]) (hz1 : z.oneCell' = true)
    (v : Value) (n : Nat) (xs : List Value) (hown : Onto w base e v n xs) (k : Nat) (h63 : n + k ≤ maxLen) (hbytes : (n + k) * bytes ≤ 140737488355328) (hbase : base ≤ w.heap.size) :
    ∃ v' w', (Builtin.append_ #[t, tn] ty #[v, .int kq k]).run P w = .ok v' w' ∧ Onto w' base e v' (n + k) (xs ++ List.replicate k z) ∧ w.grownBy w' v.ownBlock := by
  rcases hown with h | ⟨g, rfl, hb1, hb2, hb3, hb4, hb5⟩
  · obtain ⟨v', w', k1, k2, k3⟩ := run_append_own_zeros (P := P) w base t tn ty e i z bytes kq kn ht htn hi hz hsize hby hzs hz1 v n xs h k h63 hbytes hbase
    exact ⟨v', w', k1, .inl k2, k3⟩
  subst hby
  by_cases hk : k = 0
  · subst hk
    refine ⟨_, w, ?_, .inr ⟨g, rfl, hb1, hb2, hb3, by simpa using hb4, by simpa using hb5⟩, World.grownBy.refl _ _⟩
    simp [Builtin.append_, run_underlying ht, run_underlying htn, sizeOf, typeInfo, hi, asInt, asIntOf, storeCells, IntKind.wrap_i64]
  have h63' : ((n + k : Nat) : Int) ≤ 9223372036854775807 := by simp only [maxLen] at h63; omega
  have hkb : k * i.bytes ≤ 281474976710656 := by
    have h1 : k * i.bytes ≤ (n + k) * i.bytes := Nat.mul_le_mul_right _ (Nat.le_add_left _ _)
    omega
  have hf := run_firstCells_some (P := P) w.drew i.size n ⟨g, 0, none⟩ n n xs (by rw [hsize]; omega) (by simpa using hb5)
  have hr := Lib.run_append_grow_zeros (P := P) w t tn ty e i z kq kn ht htn hi hz (some ⟨g, 0, none⟩) n n xs hf k (by omega) (by omega) (by omega) h63' hkb (growslice_fits (by omega) hbytes)
  have hge := grownCap_ge w (n + k) n e
  have hcm : grownCap w (n + k) n e ≤ maxLen := grownCap_le_maxLen w (n + k) n e h63
  have hlen : (xs ++ List.replicate k z).length = (n + k) * 1 := by rw [List.length_append, hb4, List.length_replicate, Nat.mul_one]
  rw [hzs, zeroCells_one, zeroCells_one] at hr
  refine ⟨_, _, hr, .inl ⟨hlen, .inr ⟨w.heap.size, _, _, rfl, hbase, heap_alloc_new w.drew _, hge, hcm, ?_, ?_⟩⟩, ⟨rfl, rfl, rfl, by simp, fun k hk _ => heap_alloc_old w.drew _ hk⟩⟩
  · simp only [Array.size_append, List.size_toArray, List.length_replicate, hb4]
    omega
  · simp only [Array.toList_append]
    rw [← hlen]
    exact List.take_left

/-- The two appends, for the walk. -/
theorem wpList_append_onto {P : Program} {w : World} {ops : Array Oper} {rest : List Oper} {o : Oper} {a : Act} {Q : Exit → Act → World → Prop} (hgd : o.guard = none) (s x : Operand) (t : TypeId)
    (ho : o.op = .call { callee := .builtin .append, args := #[s, x], argTypes := #[t, t] })
    (base : Nat) (e : TypeId) (i : TypeInfo) (z : Value) (bytes : Nat) (ht : P.underlying t = some (.slice e)) (hi : P.info? e = some i) (hz : i.zero = some z)
    (hsize : i.size = 1) (hby : i.bytes = bytes) (hzs : z.cells.size = 1)
    (v : Value) (n : Nat) (xs : List Value) (hs : a.eval s = v) (hown : Onto w base e v n xs)
    {α : Type} {lo hi' : Nat} {f : α → Value} (ao : Option Addr) (cap : Nat) (l : List α) (hx : a.eval x = .slice ao l.length cap) (hsl : SlC lo hi' f w ao cap l) (h1 : ∀ u ∈ l.map f, u.oneCell' = true)
    (h63 : n + l.length ≤ maxLen) (hbytes : (n + l.length) * bytes ≤ 140737488355328) (hbase : base ≤ w.heap.size)
    (h : ∀ v' w', Onto w' base e v' (n + l.length) (xs ++ l.map f) → (l ≠ [] → w'.ownsRow base e 1 v' (n + l.length) (xs ++ l.map f)) → w.grownBy w' v.ownBlock → wpList P ops Q rest (a.put o.dst v') w') : wpList P ops Q (o :: rest) a w := by
  obtain ⟨v', w', k1, k2, k3, k4⟩ := append_onto (P := P) w base t o.type e i z bytes ht hi hz hsize hby hzs v n xs hown ao cap l hsl h1 h63 hbytes hbase
  exact Lib.wpList_append_run w hgd s x t t ho _ _ hs hx v' w' k1 (h v' w' k2 k3 k4)
theorem wpList_append_zeros {P : Program} {w : World} {ops : Array Oper} {rest : List Oper} {o : Oper} {a : Act} {Q : Exit → Act → World → Prop} (hgd : o.guard = none) (s x : Operand) (t tn : TypeId)
    (ho : o.op = .call { callee := .builtin .append, args := #[s, x], argTypes := #[t, tn] })
    (base : Nat) (e : TypeId) (i : TypeInfo) (z : Value) (bytes : Nat) (kq kn : IntKind) (ht : P.underlying t = some (.slice e)) (htn : P.underlying tn = some (.int kn)) (hi : P.info? e = some i) (hz : i.zero = some z)
    (hsize : i.size = 1) (hby : i.bytes = bytes) (hzs : z.cells = #[z]) (hz1 : z.oneCell' = true)
    (v : Value) (n : Nat) (xs : List Value) (hs : a.eval s = v) (hown : Onto w base e v n xs) (k : Nat) (hx : a.eval x = .int kq k) (h63 : n + k ≤ maxLen) (hbytes : (n + k) * bytes ≤ 140737488355328) (hbase : base ≤ w.heap.size)
    (h : ∀ v' w', Onto w' base e v' (n + k) (xs ++ List.replicate k z) → w.grownBy w' v.ownBlock → wpList P ops Q rest (a.put o.dst v') w') : wpList P ops Q (o :: rest) a w := by
  obtain ⟨v', w', k1, k2, k3⟩ := append_onto_zeros (P := P) w base t tn o.type e i z bytes kq kn ht htn hi hz hsize hby hzs hz1 v n xs hown k h63 hbytes hbase
  exact Lib.wpList_append_run w hgd s x t tn ho _ _ hs hx v' w' k1 (h v' w' k2 k3)
theorem wpList_append_own_zeros {P : Program} {w : World} {ops : Array Oper} {rest : List Oper} {o : Oper} {a : Act} {Q : Exit → Act → World → Prop} (hgd : o.guard = none) (s x : Operand) (t tn : TypeId)
    (ho : o.op = .call { callee := .builtin .append, args := #[s, x], argTypes := #[t, tn] })
    (base : Nat) (e : TypeId) (i : TypeInfo) (z : Value) (bytes : Nat) (kq kn : IntKind) (ht : P.underlying t = some (.slice e)) (htn : P.underlying tn = some (.int kn)) (hi : P.info? e = some i) (hz : i.zero = some z)
    (hsize : i.size = 1) (hby : i.bytes = bytes) (hzs : z.cells = #[z]) (hz1 : z.oneCell' = true)
    (v : Value) (n : Nat) (xs : List Value) (hs : a.eval s = v) (hown : w.ownsRow base e 1 v n xs) (k : Nat) (hx : a.eval x = .int kq k) (h63 : n + k ≤ maxLen) (hbytes : (n + k) * bytes ≤ 140737488355328) (hbase : base ≤ w.heap.size)
    (h : ∀ v' w', w'.ownsRow base e 1 v' (n + k) (xs ++ List.replicate k z) → w.grownBy w' v.ownBlock → wpList P ops Q rest (a.put o.dst v') w') : wpList P ops Q (o :: rest) a w := by
  obtain ⟨v', w', k1, k2, k3⟩ := run_append_own_zeros (P := P) w base t tn o.type e i z bytes kq kn ht htn hi hz hsize hby hzs hz1 v n xs hown k h63 hbytes hbase
  exact Lib.wpList_append_run w hgd s x t tn ho _ _ hs hx v' w' k1 (h v' w' k2 k3)
end Go.Proofs.Ytckmeomhcikmoaa
