/- A disk, in plain Lean: what lasts, what the cache holds, whether it is dark. No program. -/
namespace Go.Proofs.Ytnplcfgjidolbaa

/-- A disk. -/
structure Dsk where
  ls : List (List UInt8)
  cs : List (Nat × List UInt8)
  dark : Bool
  trip : Int
  rd : Int
  wr : Int
  fl : Int

/-- Which write of the cache is a sector's last. -/
def lastOf (cs : List (Nat × List UInt8)) (a : Nat) : Option Nat := cs.zipIdx.foldl (fun r p => if p.1.1 = a then some p.2 else r) none
theorem lastOf_nil (a : Nat) : lastOf [] a = none := rfl
theorem lastOf_snoc (cs : List (Nat × List UInt8)) (b : Nat) (s : List UInt8) (a : Nat) : lastOf (cs ++ [(b, s)]) a = if b = a then some cs.length else lastOf cs a := by
  unfold lastOf
  rw [List.zipIdx_append, List.foldl_append]
  simp
theorem snoc_of {α : Type} (l : List α) (h : l ≠ []) : ∃ l' b, l = l' ++ [b] := ⟨l.dropLast, l.getLast h, (List.dropLast_concat_getLast h).symm⟩
theorem lastOf_some (cs : List (Nat × List UInt8)) (a j : Nat) (h : lastOf cs a = some j) : ∃ c, cs[j]? = some c ∧ c.1 = a := by
  have key : ∀ n (cs : List (Nat × List UInt8)), cs.length = n → ∀ j, lastOf cs a = some j → ∃ c, cs[j]? = some c ∧ c.1 = a := by
    intro n
    induction n with
    | zero => intro cs hc j hj; rw [List.length_eq_zero_iff] at hc; subst hc; cases hj
    | succ n ih =>
      intro cs hc j hj
      obtain ⟨l, ⟨b, s⟩, rfl⟩ := snoc_of cs (by intro e; subst e; simp at hc)
      rw [lastOf_snoc] at hj
      split at hj
      · rename_i hb
        injection hj with hj
        subst hj
        exact ⟨(b, s), by simp, hb⟩
      · obtain ⟨c, h1, h2⟩ := ih l (by simpa using hc) j hj
        exact ⟨c, by rw [List.getElem?_append_left (List.getElem?_eq_some_iff.1 h1).1]; exact h1, h2⟩
  exact key _ cs rfl j h

/-- An operation begins: it is done, or not. -/
def Dsk.begins (d : Dsk) : Dsk × Bool :=
  if d.dark then (d, false) else if d.trip = 0 then ({ d with dark := true, trip := -1 }, false) else ({ d with trip := if 0 < d.trip then d.trip - 1 else d.trip }, true)
/-- A sector, as it was written last. -/
def Dsk.get (d : Dsk) (a : Nat) : List UInt8 := match lastOf d.cs a with | some j => (d.cs.getD j (0, [])).2 | none => d.ls.getD a []
/-- A write. -/
def Dsk.put (d : Dsk) (a : Int) (s : List UInt8) : Dsk × Int :=
  let (d', go) := d.begins
  if go = false then (d', 4) else
  let d' := { d' with wr := d'.wr + 1 }
  if a < 0 ∨ (d'.ls.length : Int) ≤ a then (d', 2) else if s.length ≠ 256 then (d', 3) else ({ d' with cs := d'.cs ++ [(a.toNat, s)] }, 0)
/-- What lasts, behind some writes of the cache that are kept. -/
def settled (ls : List (List UInt8)) (cs : List (Nat × List UInt8)) (f : Nat → Bool) : List (List UInt8) := cs.zipIdx.foldl (fun ls p => if f p.2 then ls.set p.1.1 p.1.2 else ls) ls
theorem settled_nil (ls : List (List UInt8)) (f : Nat → Bool) : settled ls [] f = ls := rfl
theorem settled_snoc (ls : List (List UInt8)) (cs : List (Nat × List UInt8)) (c : Nat × List UInt8) (f : Nat → Bool) : settled ls (cs ++ [c]) f = if f cs.length then (settled ls cs f).set c.1 c.2 else settled ls cs f := by
  unfold settled
  rw [List.zipIdx_append, List.foldl_append]
  simp
theorem settled_len (ls : List (List UInt8)) (cs : List (Nat × List UInt8)) (f : Nat → Bool) : (settled ls cs f).length = ls.length := by
  have key : ∀ (l : List ((Nat × List UInt8) × Nat)) (ls : List (List UInt8)), (l.foldl (fun ls p => if f p.2 then ls.set p.1.1 p.1.2 else ls) ls).length = ls.length := by
    intro l
    induction l with
    | nil => intro ls; rfl
    | cons p l ih => intro ls; rw [List.foldl_cons, ih]; split <;> simp
  exact key _ ls
theorem settled_take (ls : List (List UInt8)) (cs : List (Nat × List UInt8)) (f : Nat → Bool) (k : Nat) (hk : k < cs.length) : settled ls (cs.take (k + 1)) f = if f k then (settled ls (cs.take k) f).set cs[k].1 cs[k].2 else settled ls (cs.take k) f := by
  rw [List.take_succ_eq_append_getElem hk, settled_snoc]
  simp [Nat.min_eq_left (Nat.le_of_lt hk)]
/-- Each sector has its bytes. -/
def Dsk.ok (d : Dsk) : Prop := (∀ s ∈ d.ls, s.length = 256) ∧ ∀ c ∈ d.cs, c.2.length = 256 ∧ c.1 < d.ls.length
theorem settled_ok {ls : List (List UInt8)} {cs : List (Nat × List UInt8)} (f : Nat → Bool) (h1 : ∀ s ∈ ls, s.length = 256) (h2 : ∀ c ∈ cs, c.2.length = 256) : ∀ s ∈ settled ls cs f, s.length = 256 := by
  have key : ∀ (l : List ((Nat × List UInt8) × Nat)), (∀ p ∈ l, p.1.2.length = 256) → ∀ (ls : List (List UInt8)), (∀ s ∈ ls, s.length = 256) → ∀ s ∈ l.foldl (fun ls p => if f p.2 then ls.set p.1.1 p.1.2 else ls) ls, s.length = 256 := by
    intro l
    induction l with
    | nil => intro _ ls h s hs; exact h s hs
    | cons p l ih =>
      intro hl ls h
      rw [List.foldl_cons]
      refine ih (fun q hq => hl q (List.mem_cons_of_mem _ hq)) _ ?_
      split
      · intro s hs
        rcases List.mem_or_eq_of_mem_set hs with h3 | rfl
        · exact h s h3
        · exact hl p (by simp)
      · exact h
  refine key _ (fun p hp => ?_) ls h1
  have := List.fst_mem_of_mem_zipIdx hp
  exact h2 _ this
end Go.Proofs.Ytnplcfgjidolbaa
