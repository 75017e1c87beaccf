/- Lists of rows of bytes that are the call's own: a row under way beside them; the old view behind an append. -/
import Derived.Test.YtckmeomhcikmoaaFrOwn
import Derived.Test.YtckmeomhcikmoaaOwnApp
namespace Go.Proofs.Ytckmeomhcikmoaa
open Go.RowKit

theorem own_slice {w : World} {base : Nat} {e : TypeId} {size : Nat} {v : Value} {n : Nat} {xs : List Value} (h : w.ownsRow base e size v n xs) : ∃ ao cap, v = .slice ao n cap := by
  obtain ⟨_, ⟨rfl, rfl⟩ | ⟨g, cap, cur, rfl, _⟩⟩ := h
  · exact ⟨none, 0, rfl⟩
  · exact ⟨_, cap, rfl⟩
section
variable {w w' w3 : World} {o : Obj} {base bR : Nat} {v out' u rec : Value} {vs : List Value} {rows : List (List UInt8)} {r : List UInt8} {n : Nat} {xs : List Value}
/-- A row of bytes that lies behind them has turned. -/
theorem ORow.kept5 (h : ORow w base v vs rows) (hr : w.ownsRow bR 5 1 rec n xs) (hlo : ∀ x ∈ vs, ∀ k, x.ownBlock = some k → k < bR) (g : w.grownBy w' rec.ownBlock) : ORow w' base v vs rows :=
  h.same (fun k hk => g.block k (h.lt.1 k hk).2 (fun e => own_apart h.row hr (by decide) k hk e.symm))
    (fun x hx k hk => g.block k (h.lt.2 x hx k hk).2 (fun e => by
      have h1 := hlo x hx k hk
      have h2 := (hr.lt k e.symm).1
      omega))
/-- One more row, that was under way. -/
theorem ORow.pushOwn (h : ORow w base v vs rows) (hu : w.ownsRow bR 5 1 u r.length (r.map f8)) (hlo : ∀ x ∈ vs, ∀ k, x.ownBlock = some k → k < bR) (hb : base ≤ bR)
    (hw3 : w3.ownsRow base 23 1 out' (vs.length + 1) (vs ++ [u])) (g : (w.alloc o).grownBy w3 v.ownBlock) : ORow w3 base out' (vs ++ [u]) (rows ++ [r]) :=
  (h.below ((Below.refl w.heap.size w).alloc (Nat.le_refl _) o) (Nat.le_refl _)).snoc (own_mono (hu.alloc o) hb) (fun x hx k hk e => by
    have h1 := hlo x hx k hk
    have h2 := (hu.lt k e).1
    omega) hw3 g
theorem Stay.grown {g cap : Nat} (h : Stay w w' v n g cap) : w.grownBy w' v.ownBlock := by
  rcases h with ⟨rfl, h⟩ | ⟨_, h⟩
  · exact h
  · exact ⟨h.os, h.tape, h.output, h.size, fun k hk _ => h.block k hk (by simp)⟩
/-- The old view behind an append. -/
theorem Stay.old {e : TypeId} {g cap : Nat} (h : Stay w w' v n g cap) (hv : w.ownsRow base e 1 v n xs) (hn : w'.ownsRow base e 1 (.slice (some ⟨g, 0, none⟩) (n + 1) cap) (n + 1) (xs ++ [u])) : w'.ownsRow base e 1 v n xs := by
  have hl : xs.length = n := by simpa using hv.1
  rcases h with ⟨rfl, _⟩ | ⟨_, h⟩
  · have := own_prefix hn
    rwa [← hl, List.take_left, hl] at this
  · exact hv.kept h (by cases v.ownBlock <;> simp)
end
end Go.Proofs.Ytckmeomhcikmoaa
