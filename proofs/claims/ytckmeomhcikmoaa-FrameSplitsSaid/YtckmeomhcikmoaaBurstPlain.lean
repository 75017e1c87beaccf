/- A burst of at most 32 bits in plain Lean: what the flips of some bits do to the checksum. No condition, no program. -/
import Derived.Test.YtckmeomhcikmoaaCrcPlain
namespace Go.Proofs.Ytckmeomhcikmoaa.Crc

def bitAt (l : List UInt8) (j : Nat) : Bool := (l.getD (j / 8) 0).toBitVec.getLsbD (j % 8)

/-- One bit of a byte. -/
def bit8 (r : Nat) : UInt8 := UInt8.ofNat (2 ^ r)

theorem bit8_get : ∀ r t : Fin 8, (bit8 r.val).toBitVec.getLsbD t.val = decide (t = r) := by decide +kernel

theorem bits8_get (x : UInt8) (j : Nat) (h : j < 8) : (bits8 x)[j]? = some (x.toBitVec.getLsbD j) := by
  match j, h with
  | 0, _ | 1, _ | 2, _ | 3, _ | 4, _ | 5, _ | 6, _ | 7, _ => rfl

theorem bits_len (l : List UInt8) : (l.flatMap bits8).length = 8 * l.length := by
  induction l with
  | nil => rfl
  | cons x l ih => rw [List.flatMap_cons, List.length_append, ih]; simp [bits8]; omega

theorem bits_get (l : List UInt8) (j : Nat) (h : j < 8 * l.length) : (l.flatMap bits8)[j]? = some (bitAt l j) := by
  induction l generalizing j with
  | nil => simp at h
  | cons x l ih =>
    have h8 : (bits8 x).length = 8 := rfl
    rw [List.flatMap_cons]
    by_cases hj : j < 8
    · rw [List.getElem?_append_left (by omega), bits8_get x j hj]
      unfold bitAt
      rw [Nat.div_eq_of_lt hj, Nat.mod_eq_of_lt hj]; rfl
    · rw [List.getElem?_append_right (by omega), h8, ih (j - 8) (by simp at h; omega)]
      unfold bitAt
      have e1 : j / 8 = (j - 8) / 8 + 1 := by omega
      have e2 : (j - 8) % 8 = j % 8 := by omega
      rw [e1, e2]; rfl

/-- The bytes behind k of the 32 turns. -/
def flips (b : List UInt8) (frm : Nat) (c : BitVec 32) : Nat → List UInt8
  | 0 => b
  | k + 1 => if c.getLsbD k = true ∧ frm + k < 8 * b.length then
      (flips b frm c k).set ((frm + k) / 8) ((flips b frm c k).getD ((frm + k) / 8) 0 ^^^ bit8 ((frm + k) % 8)) else flips b frm c k

/-- Whether one of k turns was done. -/
def turned (b : List UInt8) (frm : Nat) (c : BitVec 32) : Nat → Bool
  | 0 => false
  | k + 1 => if c.getLsbD k = true ∧ frm + k < 8 * b.length then true else turned b frm c k

theorem flips_len (b : List UInt8) (frm : Nat) (c : BitVec 32) (k : Nat) : (flips b frm c k).length = b.length := by
  induction k with
  | zero => rfl
  | succ k ih => rw [flips]; split <;> simp [ih]

theorem flips_bit (b : List UInt8) (frm : Nat) (c : BitVec 32) (k j : Nat) (hj : j < 8 * b.length) :
    bitAt (flips b frm c k) j = (bitAt b j ^^ (decide (frm ≤ j) && decide (j < frm + k) && c.getLsbD (j - frm))) := by
  induction k with
  | zero =>
    rw [flips]
    have : ¬ (frm ≤ j ∧ j < frm + 0) := by omega
    by_cases h1 : frm ≤ j
    · have h2 : ¬ j < frm := by omega
      simp [h2]
    · simp [h1]
  | succ k ih =>
    rw [flips]
    split
    · rename_i h
      obtain ⟨hc, hk⟩ := h
      have hl := flips_len b frm c k
      generalize hx : flips b frm c k = x at *
      unfold bitAt
      by_cases hd : j / 8 = (frm + k) / 8
      · have hlt : (frm + k) / 8 < x.length := by omega
        rw [hd]
        have e : (x.set ((frm + k) / 8) (x.getD ((frm + k) / 8) 0 ^^^ bit8 ((frm + k) % 8))).getD ((frm + k) / 8) 0 = x.getD ((frm + k) / 8) 0 ^^^ bit8 ((frm + k) % 8) := by
          simp [List.getD, hlt]
        rw [e, UInt8.toBitVec_xor, BitVec.getLsbD_xor]
        have hb := bit8_get ⟨(frm + k) % 8, by omega⟩ ⟨j % 8, by omega⟩
        simp only [Fin.mk.injEq] at hb
        rw [hb]
        unfold bitAt at ih
        rw [hd] at ih
        rw [ih]
        by_cases hm : j % 8 = (frm + k) % 8
        · have hjk : j = frm + k := by omega
          subst hjk
          have : frm + k - frm = k := by omega
          simp [this, hc]
        · have hjk : j ≠ frm + k := by intro e; subst e; exact hm rfl
          have e1 : (j < frm + k) ↔ (j < frm + (k + 1)) := by omega
          simp [hm, e1]
      · have hjk : j ≠ frm + k := by intro e; subst e; exact hd rfl
        have e : (x.set ((frm + k) / 8) (x.getD ((frm + k) / 8) 0 ^^^ bit8 ((frm + k) % 8))).getD (j / 8) 0 = x.getD (j / 8) 0 := by
          simp [List.getD, Ne.symm hd]
        rw [e]
        unfold bitAt at ih
        rw [ih]
        have e1 : (j < frm + k) ↔ (j < frm + (k + 1)) := by omega
        simp [e1]
    · rename_i h
      rw [ih]
      by_cases hjk : j = frm + k
      · subst hjk
        have hck : c.getLsbD k = false := by
          cases hc : c.getLsbD k
          · rfl
          · exact absurd ⟨hc, hj⟩ h
        have : frm + k - frm = k := by omega
        simp [this, hck]
      · have e1 : (j < frm + k) ↔ (j < frm + (k + 1)) := by omega
        simp [e1]

theorem turned_iff (b : List UInt8) (frm : Nat) (c : BitVec 32) (k : Nat) : turned b frm c k = true ↔ ∃ i, i < k ∧ c.getLsbD i = true ∧ frm + i < 8 * b.length := by
  induction k with
  | zero => simp [turned]
  | succ k ih =>
    rw [turned]
    split
    · rename_i h; simp; exact ⟨k, by omega, h⟩
    · rename_i h
      rw [ih]
      constructor
      · rintro ⟨i, h1, h2⟩; exact ⟨i, by omega, h2⟩
      · rintro ⟨i, h1, h2⟩
        refine ⟨i, ?_, h2⟩
        rcases Nat.lt_or_ge i k with h3 | h3
        · exact h3
        · have : i = k := by omega
          subst this; exact absurd h2 h

theorem bitAt_xor (a b : List UInt8) (h : a.length = b.length) (j : Nat) : bitAt (List.zipWith (· ^^^ ·) a b) j = (bitAt a j ^^ bitAt b j) := by
  unfold bitAt
  have e : (List.zipWith (· ^^^ ·) a b).getD (j / 8) 0 = a.getD (j / 8) 0 ^^^ b.getD (j / 8) 0 := by
    by_cases hj : j / 8 < a.length
    · have hj' : j / 8 < b.length := by omega
      simp [List.getD, List.getElem?_zipWith, hj, hj']
    · have hj' : ¬ j / 8 < b.length := by omega
      simp [List.getD, List.getElem?_zipWith, hj, hj']
  rw [e, UInt8.toBitVec_xor, BitVec.getLsbD_xor]

theorem run_diff (n : BitVec 32) (a b : List UInt8) (h : a.length = b.length) : run n a = run n b ↔ run 0#32 (List.zipWith (· ^^^ ·) a b) = 0#32 := by
  have := run_xor n n a b h
  have hz : n ^^^ n = 0#32 := by simp
  rw [hz] at this
  rw [this]
  constructor
  · intro e; rw [e]; simp
  · intro e
    have h2 : run n a ^^^ (run n b ^^^ run n b) = run n b := by
      have : run n a ^^^ (run n b ^^^ run n b) = (run n a ^^^ run n b) ^^^ run n b := by ac_rfl
      rw [this, e]; simp
    simpa using h2

theorem sum_diff (a b : List UInt8) (h : a.length = b.length) : sum a = sum b ↔ run 0#32 (List.zipWith (· ^^^ ·) a b) = 0#32 := by
  rw [← run_diff (~~~ 0#32) a b h]
  unfold sum more
  constructor
  · intro e
    have := congrArg (fun x => ~~~x) e
    simpa using this
  · intro e; rw [e]

/-- ANY CHANGE WITHIN 32 BITS THAT STAND IN A ROW CHANGES THE SUM. -/
theorem bursts (b : List UInt8) (frm : Nat) (c : BitVec 32) : sum (flips b frm c 32) = sum b ↔ turned b frm c 32 = false := by
  rw [sum_diff _ _ (flips_len b frm c 32), run_bits]
  generalize hd : (List.zipWith (· ^^^ ·) (flips b frm c 32) b) = d
  have hdl : d.length = b.length := by rw [← hd]; simp [flips_len]
  have hbit : ∀ j, j < 8 * b.length → bitAt d j = (decide (frm ≤ j) && decide (j < frm + 32) && c.getLsbD (j - frm)) := by
    intro j hj
    rw [← hd, bitAt_xor _ _ (flips_len b frm c 32), flips_bit b frm c 32 j hj]
    cases bitAt b j <;> simp
  have hbl := bits_len d
  rw [hdl] at hbl
  -- in three parts
  have hsplit : d.flatMap bits8 = (d.flatMap bits8).take frm ++ (((d.flatMap bits8).drop frm).take 32) ++ ((d.flatMap bits8).drop frm).drop 32 := by
    rw [List.append_assoc, List.take_append_drop, List.take_append_drop]
  rw [hsplit, burst]
  · constructor
    · intro h
      cases ht : turned b frm c 32
      · rfl
      · obtain ⟨i, h1, h2, h3⟩ := (turned_iff b frm c 32).1 ht
        have h4 : ((d.flatMap bits8).drop frm)[i]? = some true := by
          rw [List.getElem?_drop, bits_get d (frm + i) (by omega), hbit (frm + i) h3]
          have e : frm + i - frm = i := by omega
          simp [e, h2, h1]
        have h5 : true ∈ ((d.flatMap bits8).drop frm).take 32 := by
          rw [List.mem_iff_getElem?]
          exact ⟨i, by rw [List.getElem?_take, if_pos h1]; exact h4⟩
        exact absurd (h true h5) (by simp)
    · intro ht e he
      rw [List.mem_iff_getElem?] at he
      obtain ⟨i, hi⟩ := he
      rw [List.getElem?_take] at hi
      by_cases h1 : i < 32
      · rw [if_pos h1, List.getElem?_drop] at hi
        have h3 : frm + i < 8 * b.length := by
          have := (List.getElem?_eq_some_iff.1 hi).1
          omega
        rw [bits_get d (frm + i) (by omega), hbit (frm + i) h3] at hi
        have e' : frm + i - frm = i := by omega
        simp [e', h1] at hi
        cases e
        · rfl
        · have := (turned_iff b frm c 32).2 ⟨i, h1, hi, h3⟩
          rw [ht] at this; cases this
      · rw [if_neg h1] at hi; cases hi
  · simp; omega
  · intro e he
    rw [List.mem_iff_getElem?] at he
    obtain ⟨i, hi⟩ := he
    rw [List.getElem?_take] at hi
    by_cases h1 : i < frm
    · rw [if_pos h1] at hi
      have h3 : i < 8 * b.length := by
        have := (List.getElem?_eq_some_iff.1 hi).1
        omega
      rw [bits_get d i (by omega), hbit i h3] at hi
      have : ¬ frm ≤ i := by omega
      simp [this] at hi
      exact hi
    · rw [if_neg h1] at hi; cases hi
  · intro e he
    rw [List.mem_iff_getElem?] at he
    obtain ⟨i, hi⟩ := he
    rw [List.drop_drop, List.getElem?_drop] at hi
    have h3 : frm + 32 + i < 8 * b.length := by
      have := (List.getElem?_eq_some_iff.1 hi).1
      omega
    rw [bits_get d _ (by omega), hbit _ h3] at hi
    have : ¬ frm + 32 + i < frm + 32 := by omega
    simp [this] at hi
    exact hi

theorem bursts_bool (b : List UInt8) (frm : Nat) (c : BitVec 32) : (sum (flips b frm c 32) != sum b) = turned b frm c 32 := by
  cases ht : turned b frm c 32
  · rw [(bursts b frm c).2 ht]; simp
  · have : sum (flips b frm c 32) ≠ sum b := fun e => by rw [(bursts b frm c).1 e] at ht; cases ht
    simpa using this
end Go.Proofs.Ytckmeomhcikmoaa.Crc
