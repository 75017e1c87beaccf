/- Records as sectors of a segment, in plain Lean: sectors, pieces, splitting, scanning. No condition, no program. -/
import Derived.Test.YtckmeomhcikmoaaBurstPlain
namespace Go.Proofs.Ytckmeomhcikmoaa.Fr

/-- A number's lowest byte. -/
def u8 (n : Nat) : UInt8 := UInt8.ofNat n
theorem u8_toNat (n : Nat) : (u8 n).toNat = n % 256 := by simp [u8]
/-- The four bytes of a word, the lowest first. -/
def le32 (x : BitVec 32) : List UInt8 := [UInt8.ofBitVec (x.setWidth 8), UInt8.ofBitVec ((x >>> 8).setWidth 8), UInt8.ofBitVec ((x >>> 16).setWidth 8), UInt8.ofBitVec ((x >>> 24).setWidth 8)]
theorem le32_len (x : BitVec 32) : (le32 x).length = 4 := rfl
theorem byte_get (x : BitVec 32) (s i : Nat) (hi : i < 8) : (UInt8.ofBitVec ((x >>> s).setWidth 8)).toBitVec.getLsbD i = x.getLsbD (s + i) := by
  simp [hi]
theorem le32_inj {x y : BitVec 32} (h : le32 x = le32 y) : x = y := by
  simp only [le32, List.cons.injEq, and_true] at h
  obtain ⟨h0, h1, h2, h3⟩ := h
  have k0 : ∀ i, i < 8 → x.getLsbD i = y.getLsbD i := fun i hi => by
    have := congrArg (fun z : UInt8 => z.toBitVec.getLsbD i) h0
    simpa [hi] using this
  have k : ∀ s, UInt8.ofBitVec ((x >>> s).setWidth 8) = UInt8.ofBitVec ((y >>> s).setWidth 8) → ∀ i, i < 8 → x.getLsbD (s + i) = y.getLsbD (s + i) := fun s hs i hi => by
    have := congrArg (fun z : UInt8 => z.toBitVec.getLsbD i) hs
    simp only [byte_get _ _ _ hi] at this
    exact this
  apply BitVec.eq_of_getLsbD_eq
  intro i hi
  rcases Nat.lt_or_ge i 8 with h | h
  · exact k0 i h
  rcases Nat.lt_or_ge i 16 with h' | h'
  · have := k 8 h1 (i - 8) (by omega); rwa [show 8 + (i - 8) = i from by omega] at this
  rcases Nat.lt_or_ge i 24 with h'' | h''
  · have := k 16 h2 (i - 16) (by omega); rwa [show 16 + (i - 16) = i from by omega] at this
  · have := k 24 h3 (i - 24) (by omega); rwa [show 24 + (i - 24) = i from by omega] at this

/-- What stands ahead of a piece. -/
def hd (k : UInt8) (seg : BitVec 32) (j n : Nat) : List UInt8 := [66, 76, k, 0] ++ le32 seg ++ [u8 j, u8 (j / 256), u8 n, u8 (n / 256)]
def body (k : UInt8) (seg : BitVec 32) (j : Nat) (p : List UInt8) : List UInt8 := hd k seg j p.length ++ p ++ List.replicate (240 - p.length) 0
/-- A piece as a sector. -/
def sect (k : UInt8) (seg : BitVec 32) (j : Nat) (p : List UInt8) : List UInt8 := body k seg j p ++ le32 (Crc.sum (body k seg j p))
theorem hd_len (k : UInt8) (seg : BitVec 32) (j n : Nat) : (hd k seg j n).length = 12 := rfl
theorem body_len (k : UInt8) (seg : BitVec 32) (j : Nat) {p : List UInt8} (h : p.length ≤ 240) : (body k seg j p).length = 252 := by
  simp only [body, List.length_append, hd_len, List.length_replicate]; omega
theorem sect_len (k : UInt8) (seg : BitVec 32) (j : Nat) {p : List UInt8} (h : p.length ≤ 240) : (sect k seg j p).length = 256 := by
  simp only [sect, List.length_append, body_len k seg j h, le32_len]

/-- How long a sector says that its piece is. -/
def lenOf (b : List UInt8) : Nat := (b.getD 10 0).toNat + 256 * (b.getD 11 0).toNat
def kindAt (b : List UInt8) : UInt8 := b.getD 2 0
def pick (b : List UInt8) : List UInt8 := (b.drop 12).take (lenOf b)
/-- What a sector has: its kind and its bytes; kind 0: it is none. -/
def piece (seg : BitVec 32) (j : Nat) (b : List UInt8) : UInt8 × List UInt8 :=
  if b.length ≠ 256 ∨ 65535 < j then (0, [])
  else if 240 < lenOf b ∨ (kindAt b).toNat < 1 ∨ 4 < (kindAt b).toNat then (0, [])
  else if sect (kindAt b) seg j (pick b) ≠ b then (0, [])
  else (kindAt b, pick b)

theorem sect_kind (k : UInt8) (seg : BitVec 32) (j : Nat) (p : List UInt8) : kindAt (sect k seg j p) = k := rfl
theorem sect_lenOf (k : UInt8) (seg : BitVec 32) (j : Nat) {p : List UInt8} (h : p.length ≤ 240) : lenOf (sect k seg j p) = p.length := by
  show (u8 p.length).toNat + 256 * (u8 (p.length / 256)).toNat = _
  rw [u8_toNat, u8_toNat]; omega
theorem sect_pick (k : UInt8) (seg : BitVec 32) (j : Nat) {p : List UInt8} (h : p.length ≤ 240) : pick (sect k seg j p) = p := by
  unfold pick
  rw [sect_lenOf k seg j h]
  have : (sect k seg j p).drop 12 = p ++ (List.replicate (240 - p.length) 0 ++ le32 (Crc.sum (body k seg j p))) := by
    unfold sect
    generalize le32 (Crc.sum (body k seg j p)) = c
    unfold body
    rw [List.append_assoc, List.append_assoc, List.drop_append_of_le_length (by rw [hd_len]; omega), List.drop_of_length_le (by rw [hd_len]; omega)]
    simp
  rw [this, List.take_append_of_le_length (by omega), List.take_length]
theorem piece_sect {k : UInt8} (hk : 1 ≤ k.toNat ∧ k.toNat ≤ 4) (seg : BitVec 32) {j : Nat} (hj : j ≤ 65535) {p : List UInt8} (h : p.length ≤ 240) : piece seg j (sect k seg j p) = (k, p) := by
  unfold piece
  rw [sect_len k seg j h, sect_lenOf k seg j h, sect_kind, sect_pick k seg j h, if_neg (by omega), if_neg (by omega), if_neg (by simp)]
theorem piece_some {seg : BitVec 32} {j : Nat} {b : List UInt8} (h : (piece seg j b).1 ≠ 0) :
    b = sect (piece seg j b).1 seg j (piece seg j b).2 ∧ (piece seg j b).2.length ≤ 240 ∧ 1 ≤ (piece seg j b).1.toNat ∧ (piece seg j b).1.toNat ≤ 4 ∧ j ≤ 65535 ∧ b.length = 256 := by
  unfold piece at h ⊢
  split at h
  · exact absurd rfl h
  rename_i h1
  split at h
  · exact absurd rfl h
  rename_i h2
  split at h
  · exact absurd rfl h
  rename_i h3
  rw [if_neg h1, if_neg h2, if_neg h3]
  have h4 : ¬ (240 < lenOf b ∨ (kindAt b).toNat < 1 ∨ 4 < (kindAt b).toNat) := h2
  refine ⟨(Decidable.not_not.1 h3).symm, ?_, show 1 ≤ (kindAt b).toNat by omega, show (kindAt b).toNat ≤ 4 by omega, by omega, by omega⟩
  show (pick b).length ≤ 240
  unfold pick
  rw [List.length_take]; omega
theorem piece_none {seg : BitVec 32} {j : Nat} {b : List UInt8} (h : (piece seg j b).1 = 0) : piece seg j b = (0, []) := by
  unfold piece at h ⊢
  split at h
  · rename_i h1; rw [if_pos h1]
  rename_i h1
  split at h
  · rename_i h2; rw [if_neg h1, if_pos h2]
  rename_i h2
  split at h
  · rename_i h3; rw [if_neg h1, if_neg h2, if_pos h3]
  · have h' : kindAt b = 0 := h
    rw [h'] at h2
    exact absurd (Or.inr (Or.inl (by decide))) h2
theorem piece_le (seg : BitVec 32) (j : Nat) (b : List UInt8) : (piece seg j b).2.length ≤ 240 := by
  by_cases h : (piece seg j b).1 = 0
  · rw [piece_none h]; simp
  · exact (piece_some h).2.1
theorem piece_kind (seg : BitVec 32) (j : Nat) (b : List UInt8) : (piece seg j b).1.toNat ≤ 4 := by
  by_cases h : (piece seg j b).1 = 0
  · rw [h]; decide
  · exact (piece_some h).2.2.2.1

/-- Kind of the i-th of n sectors. -/
def kindOf (n i : Nat) : UInt8 := if n = 1 then 1 else if i = 0 then 2 else if i = n - 1 then 4 else 3
/-- How many sectors a record takes. -/
def cnt (r : List UInt8) : Nat := max 1 ((r.length + 239) / 240)
def part (r : List UInt8) (i : Nat) : List UInt8 := (r.drop (240 * i)).take 240
def one (seg : BitVec 32) (j : Nat) (r : List UInt8) (n i : Nat) : List UInt8 := sect (kindOf n i) seg (j + i) (part r i)
def splitL (seg : BitVec 32) (j : Nat) (r : List UInt8) : List (List UInt8) := (List.range (cnt r)).map (one seg j r (cnt r))
theorem part_le (r : List UInt8) (i : Nat) : (part r i).length ≤ 240 := by simp [part]; omega
theorem one_len (seg : BitVec 32) (j : Nat) (r : List UInt8) (n i : Nat) : (one seg j r n i).length = 256 := sect_len _ _ _ (part_le r i)
theorem kindOf_ok (n i : Nat) : 1 ≤ (kindOf n i).toNat ∧ (kindOf n i).toNat ≤ 4 := by
  unfold kindOf; split
  · decide
  split
  · decide
  split <;> decide
theorem splitL_len (seg : BitVec 32) (j : Nat) (r : List UInt8) : (splitL seg j r).length = cnt r := by simp [splitL]

/-- The scan: position j, records out, record r under way, where it began d, whether one has begun. -/
def scan (seg : BitVec 32) : List (List UInt8) → Nat → List (List UInt8) → List UInt8 → Nat → Bool → List (List UInt8) × Nat
  | [], _, out, _, d, _ => (out, d)
  | b :: l, j, out, r, d, g =>
    let k := (piece seg j b).1
    let p := (piece seg j b).2
    if 7680 < (r ++ p).length then (out, d)
    else if k = 1 ∧ g = false ∨ k = 4 ∧ g = true ∧ 0 < p.length then scan seg l (j + 1) (out ++ [r ++ p]) [] (j + 1) false
    else if (k = 2 ∧ g = false ∨ k = 3 ∧ g = true) ∧ p.length = 240 then scan seg l (j + 1) out (r ++ p) d true
    else (out, d)

/-- The record that begins at the list's head, i sectors of it taken; and how many it takes; 0: none. -/
def rec1 (seg : BitVec 32) : List (List UInt8) → Nat → Nat → List UInt8 → List UInt8 × Nat
  | [], _, _, _ => ([], 0)
  | b :: l, j, i, r =>
    let k := (piece seg j b).1
    let p := (piece seg j b).2
    if 7680 < (r ++ p).length then ([], 0)
    else if i = 0 ∧ k = 1 then (r ++ p, 1)
    else if (i = 0 ∧ k = 2 ∨ 0 < i ∧ k = 3) ∧ p.length = 240 then rec1 seg l (j + 1) (i + 1) (r ++ p)
    else if 0 < i ∧ k = 4 ∧ 0 < p.length then (r ++ p, i + 1)
    else ([], 0)
theorem rec1_le (seg : BitVec 32) (l : List (List UInt8)) (j i : Nat) (r : List UInt8) : (rec1 seg l j i r).2 ≤ i + l.length := by
  induction l generalizing j i r with
  | nil => simp [rec1]
  | cons b l ih =>
    simp only [rec1, List.length_cons]
    split
    · simp
    split
    · simp only; omega
    split
    · have := ih (j + 1) (i + 1) (r ++ (piece seg j b).2); omega
    split
    · simp only; omega
    · simp
theorem rec1_ge (seg : BitVec 32) (l : List (List UInt8)) (j i : Nat) (r : List UInt8) : (rec1 seg l j i r).2 = 0 ∨ i < (rec1 seg l j i r).2 := by
  induction l generalizing j i r with
  | nil => simp [rec1]
  | cons b l ih =>
    simp only [rec1]
    split
    · simp
    split
    · rename_i h; right; simp [h.1]
    split
    · rcases ih (j + 1) (i + 1) (r ++ (piece seg j b).2) with h | h
      · exact .inl h
      · right; omega
    split
    · right; simp
    · simp

/-- The scan, told by records: from a place where none is under way or i sectors of one are. -/
theorem scan_rec' (seg : BitVec 32) (l : List (List UInt8)) (j i : Nat) (out : List (List UInt8)) (r : List UInt8) (d : Nat) (hj : j = d + i) (t : List UInt8) (n : Nat) (ht : rec1 seg l j i r = (t, n)) :
    (n = 0 → scan seg l j out r d (decide (0 < i)) = (out, d)) ∧ (n ≠ 0 → scan seg l j out r d (decide (0 < i)) = scan seg (l.drop (n - i)) (d + n) (out ++ [t]) [] (d + n) false) := by
  induction l generalizing j i r with
  | nil =>
    simp only [rec1, Prod.mk.injEq] at ht
    obtain ⟨rfl, rfl⟩ := ht
    exact ⟨fun _ => rfl, fun h => absurd rfl h⟩
  | cons b l ih =>
    rw [rec1] at ht
    rw [scan]
    by_cases h0 : 7680 < (r ++ (piece seg j b).2).length
    · rw [if_pos h0, Prod.mk.injEq] at ht
      obtain ⟨rfl, rfl⟩ := ht
      rw [if_pos h0]
      exact ⟨fun _ => rfl, fun h => absurd rfl h⟩
    rw [if_neg h0] at ht ⊢
    by_cases h1 : i = 0 ∧ (piece seg j b).1 = 1
    · rw [if_pos h1, Prod.mk.injEq] at ht
      obtain ⟨rfl, rfl⟩ := ht
      obtain ⟨hi, hk⟩ := h1
      subst hi hj
      rw [if_pos (.inl ⟨hk, by simp⟩)]
      exact ⟨fun h => absurd h (by decide), fun _ => rfl⟩
    rw [if_neg h1] at ht
    by_cases h2 : (i = 0 ∧ (piece seg j b).1 = 2 ∨ 0 < i ∧ (piece seg j b).1 = 3) ∧ (piece seg j b).2.length = 240
    · rw [if_pos h2] at ht
      have e1 : ¬ ((piece seg j b).1 = 1 ∧ decide (0 < i) = false ∨ (piece seg j b).1 = 4 ∧ decide (0 < i) = true ∧ 0 < (piece seg j b).2.length) := by
        rcases h2.1 with ⟨_, hk⟩ | ⟨_, hk⟩
        · rintro (⟨h, _⟩ | ⟨h, _⟩) <;> (rw [hk] at h; exact absurd h (by decide))
        · rintro (⟨h, _⟩ | ⟨h, _⟩) <;> (rw [hk] at h; exact absurd h (by decide))
      rw [if_neg e1, if_pos (by
        refine ⟨?_, h2.2⟩
        rcases h2.1 with ⟨a, b⟩ | ⟨a, b⟩
        · exact .inl ⟨b, by simp [a]⟩
        · exact .inr ⟨b, by simp [a]⟩)]
      have h3 := ih (j + 1) (i + 1) (r ++ (piece seg j b).2) (by omega) ht
      rw [show decide (0 < i + 1) = true from by simp] at h3
      refine ⟨h3.1, fun hn => ?_⟩
      rw [h3.2 hn]
      have := rec1_ge seg l (j + 1) (i + 1) (r ++ (piece seg j b).2)
      rw [ht] at this
      rw [show n - i = (n - (i + 1)) + 1 from by omega, List.drop_succ_cons]
    rw [if_neg h2] at ht
    by_cases h3 : 0 < i ∧ (piece seg j b).1 = 4 ∧ 0 < (piece seg j b).2.length
    · rw [if_pos h3, Prod.mk.injEq] at ht
      obtain ⟨rfl, rfl⟩ := ht
      rw [if_pos (.inr ⟨h3.2.1, by simp [h3.1], h3.2.2⟩)]
      subst hj
      refine ⟨fun h => absurd h (by omega), fun _ => ?_⟩
      rw [show i + 1 - i = 0 + 1 from by omega, List.drop_succ_cons, List.drop_zero, Nat.add_assoc]
    · rw [if_neg h3, Prod.mk.injEq] at ht
      obtain ⟨rfl, rfl⟩ := ht
      refine ⟨fun _ => ?_, fun h => absurd rfl h⟩
      rw [if_neg, if_neg]
      · rintro ⟨h, hl⟩
        refine h2 ⟨?_, hl⟩
        rcases h with ⟨a, b⟩ | ⟨a, b⟩
        · exact .inl ⟨by simpa using b, a⟩
        · exact .inr ⟨by simpa using b, a⟩
      · rintro (⟨a, b⟩ | ⟨a, b, c⟩)
        · exact h1 ⟨by simpa using b, a⟩
        · exact h3 ⟨by simpa using b, a, c⟩
theorem scan_end {seg : BitVec 32} {l : List (List UInt8)} {j : Nat} {t : List UInt8} (out : List (List UInt8)) (ht : rec1 seg l j 0 [] = (t, 0)) : scan seg l j out [] j false = (out, j) := by
  have := (scan_rec' seg l j 0 out [] j rfl t 0 ht).1 rfl
  simpa using this
theorem scan_more {seg : BitVec 32} {l : List (List UInt8)} {j n : Nat} {t : List UInt8} (out : List (List UInt8)) (ht : rec1 seg l j 0 [] = (t, n)) (hn : n ≠ 0) : scan seg l j out [] j false = scan seg (l.drop n) (j + n) (out ++ [t]) [] (j + n) false := by
  have := (scan_rec' seg l j 0 out [] j rfl t n ht).2 hn
  simpa using this
end Go.Proofs.Ytckmeomhcikmoaa.Fr
