/- append that keeps the old view of the row. -/
import Derived.Test.YtepjpdhmjchakaaDoorApp
import Derived.Deep.AppendLies
import Derived.Deep.DeepAppendRoom
import Derived.Laws.OwnMore
namespace Go.Proofs.YtepjpdhmjchakaaDoor
open Go.RowKit

/-- The new row is the old one with room, or a new block with the old one as it was. -/
def Stay (w w' : World) (v : Value) (n g cap' : Nat) : Prop :=
  (v = .slice (some ⟨g, 0, none⟩) n cap' ∧ w.grownBy w' (some g)) ∨ (g = w.heap.size ∧ w.grownBy w' none)

theorem run_append_stay {P : Program} (w : World) (t ty : TypeId) (base : Nat) (e : TypeId) (i : TypeInfo) (z : Value) (bytes : Nat) (ht : P.underlying t = some (.slice e)) (hi : P.info? e = some i) (hz : i.zero = some z)
    (hsize : i.size = 1) (hby : i.bytes = bytes) (hzs : z.cells.size = 1)
    (v : Value) (n : Nat) (xs : List Value) (hown : w.ownsRow base e 1 v n xs)
    (ad : Addr) (c : Nat) (u : Value) (hnews : w.cell? ad = some u) (h1 : u.oneCell' = true) (had : ∀ j u', [u][j]? = some u' → w.cell? (ad.add j) = some u')
    (h63 : n + 1 ≤ maxLen) (hbytes : (n + 1) * bytes ≤ 140737488355328) (hbase : base ≤ w.heap.size) :
    ∃ g cap w', (Builtin.append_ #[t, t] ty #[v, .slice (some ad) 1 c]).run P w = .ok (.slice (some ⟨g, 0, none⟩) (n + 1) cap) w' ∧
      w'.ownsRow base e 1 (.slice (some ⟨g, 0, none⟩) (n + 1) cap) (n + 1) (xs ++ [u]) ∧ Stay w w' v n g cap ∧ g < w'.heap.size := by
  have h1' : ∀ u' ∈ [u], u'.oneCell' = true := by intro u' h; simp at h; subst h; exact h1
  obtain ⟨g, cap', w', hr, h2, h3, h4, h5⟩ := run_append_lies (P := P) w t ty base e i z 1 bytes ht hi hz hsize hby hzs (by decide) v n xs hown ad 1 c [u] rfl had h1' (by decide) h63 hbytes hbase _ rfl
  rcases hown.2 with ⟨rfl, rfl⟩ | ⟨g0, cap, cur, rfl, hbg, hg, hnc, hcm, hcs, htake⟩
  · refine ⟨g, cap', w', hr, h2, .inr ⟨?_, h3⟩, h5⟩
    rcases h4 with h4 | h4
    · cases h4
    · exact h4
  · by_cases hroom : n + 1 ≤ cap
    · obtain ⟨w2, hr2, h22, h23⟩ := run_append_own_spare (P := P) w base t ty e i 1 ht hi hsize g0 n cap xs hown ad 1 c [u] rfl had h1' hroom
      rw [hr] at hr2
      simp only [Result.ok.injEq, Value.slice.injEq, Option.some.injEq, Addr.mk.injEq, and_true, true_and] at hr2
      obtain ⟨⟨rfl, rfl⟩, rfl⟩ := hr2
      exact ⟨_, _, _, hr, h2, .inl ⟨rfl, h23⟩, h5⟩
    · have holds : ∀ j u, xs[j]? = some u → w.cell? ((⟨g0, 0, none⟩ : Addr).add j) = some u := hown.cells (g := g0) rfl
      subst hby
      have hsm : n + 1 ≤ 9223372036854775807 := by unfold maxLen at h63; omega
      have hr2 := run_append_grow (P := P) w t ty e i z ht hi hz ⟨g0, 0, none⟩ n cap xs (by rw [hsize]; exact hown.1) holds ad 1 c [u] (by rw [hsize]; rfl) had (by omega) (by omega) (growslice_fits (by omega) hbytes)
      rw [hr] at hr2
      simp only [Result.ok.injEq, Value.slice.injEq, Option.some.injEq, Addr.mk.injEq, and_true, true_and] at hr2
      obtain ⟨⟨hgg, -⟩, hw⟩ := hr2
      refine ⟨g, cap', w', hr, h2, .inr ⟨hgg, ?_⟩, h5⟩
      rw [hw]
      exact ⟨rfl, rfl, rfl, by simp, fun k hk _ => Below.heap_alloc w.drew _ k hk⟩

theorem wpList_append_stay {P : Program} (w : World) {ops : Array Oper} {rest : List Oper} {o : Oper} {a : Act} {Q : Exit → Act → World → Prop} (hgd : o.guard = none) (s x : Operand) (t : TypeId)
    (ho : o.op = .call { callee := .builtin .append, args := #[s, x], argTypes := #[t, t] })
    (base : Nat) (e : TypeId) (i : TypeInfo) (z : Value) (bytes : Nat) (ht : P.underlying t = some (.slice e)) (hi : P.info? e = some i) (hz : i.zero = some z)
    (hsize : i.size = 1) (hby : i.bytes = bytes) (hzs : z.cells.size = 1)
    (v : Value) (n : Nat) (xs : List Value) (hs : a.eval s = v) (hown : w.ownsRow base e 1 v n xs)
    (ad : Addr) (c : Nat) (u : Value) (hx : a.eval x = .slice (some ad) 1 c) (had : ∀ j u', [u][j]? = some u' → w.cell? (ad.add j) = some u') (h1 : u.oneCell' = true)
    (h63 : n + 1 ≤ maxLen) (hbytes : (n + 1) * bytes ≤ 140737488355328) (hbase : base ≤ w.heap.size)
    (h : ∀ g cap w', w'.ownsRow base e 1 (.slice (some ⟨g, 0, none⟩) (n + 1) cap) (n + 1) (xs ++ [u]) → Stay w w' v n g cap → g < w'.heap.size → wpList P ops Q rest (a.put o.dst (.slice (some ⟨g, 0, none⟩) (n + 1) cap)) w') : wpList P ops Q (o :: rest) a w := by
  refine wpList_plain hgd fun K hK => ?_
  have h0 : w.cell? ad = some u := by
    have := had 0 u rfl
    cases ad with
    | mk b o sp => cases sp <;> simpa [Addr.add] using this
  obtain ⟨g, cap, w', hr, h2, h3, h4⟩ := run_append_stay (P := P) w t o.type base e i z bytes ht hi hz hsize hby hzs v n xs hown ad c u h0 h1 had h63 hbytes hbase
  unfold Oper.wp execOp
  simp only [ho, resolve, invoke, builtin, Sem.run_bind, Sem.run_pure, Result.andThen_ok, List.map_toArray, List.map_cons, List.map_nil, hs, hx, hr]
  exact hK _ _ (h g cap w' h2 h3 h4)

/-- The first elements of a row, as a row. -/
theorem own_prefix {w : World} {base : Nat} {e : TypeId} {g cap : Nat} {n m : Nat} {ys : List Value} (h : w.ownsRow base e 1 (.slice (some ⟨g, 0, none⟩) (n + m) cap) (n + m) ys) : w.ownsRow base e 1 (.slice (some ⟨g, 0, none⟩) n cap) n (ys.take n) := by
  obtain ⟨hl, h | ⟨g', cap', cur, hv, hb, hh, h1, h2, h3, h4⟩⟩ := h
  · simp at h
  · simp only [Value.slice.injEq, Option.some.injEq, Addr.mk.injEq, and_true, true_and] at hv
    obtain ⟨rfl, rfl⟩ := hv
    refine ⟨by simp at hl ⊢; omega, .inr ⟨g, cap, cur, rfl, hb, hh, by omega, h2, h3, ?_⟩⟩
    rw [← h4, List.take_take]
    congr 1
    omega
/-- Two views of one block have one capacity. -/
theorem own_cap {w : World} {base base' : Nat} {e : TypeId} {g cap cap' n n' : Nat} {xs ys : List Value} (h : w.ownsRow base e 1 (.slice (some ⟨g, 0, none⟩) n cap) n xs) (k : w.ownsRow base' e 1 (.slice (some ⟨g, 0, none⟩) n' cap') n' ys) : cap = cap' := by
  obtain ⟨_, h | ⟨g1, c1, cur1, hv, _, hh, _, _, h3, _⟩⟩ := h
  · simp at h
  · obtain ⟨_, k | ⟨g2, c2, cur2, kv, _, kk, _, _, k3, _⟩⟩ := k
    · simp at k
    · simp only [Value.slice.injEq, Option.some.injEq, Addr.mk.injEq, and_true, true_and] at hv kv
      obtain ⟨rfl, rfl⟩ := hv
      obtain ⟨rfl, rfl⟩ := kv
      rw [hh] at kk
      injection kk with kk
      injection kk with kk
      subst kk
      omega
/-- Rows of two element types lie apart. -/
theorem own_apart {w : World} {base base' : Nat} {e e' : TypeId} {s s' : Nat} {v v' : Value} {n n' : Nat} {xs ys : List Value} (h : w.ownsRow base e s v n xs) (k : w.ownsRow base' e' s' v' n' ys) (hne : e ≠ e') : ∀ b, v.ownBlock = some b → v'.ownBlock ≠ some b := by
  intro b hb hb'
  obtain ⟨_, ⟨rfl, _⟩ | ⟨g1, c1, cur1, rfl, _, hh, _⟩⟩ := h
  · cases hb
  · obtain ⟨_, ⟨rfl, _⟩ | ⟨g2, c2, cur2, rfl, _, kk, _⟩⟩ := k
    · cases hb'
    · injection hb with hb
      injection hb' with hb'
      have e1 : g1 = b := hb
      have e2 : g2 = b := hb'
      rw [e1] at hh
      rw [e2, hh] at kk
      injection kk with kk
      injection kk with _ kk
      exact hne kk
end Go.Proofs.YtepjpdhmjchakaaDoor
