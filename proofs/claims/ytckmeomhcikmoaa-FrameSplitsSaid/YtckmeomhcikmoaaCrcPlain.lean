/- The checksum in plain Lean: one bit's step, a byte's, linearity, bursts. No condition, no program. -/
namespace Go.Proofs.Ytckmeomhcikmoaa.Crc

/-- One bit's step. -/
def stp (n : BitVec 32) : BitVec 32 := (n >>> 1) ^^^ (if n.getLsbD 0 then 0x82f63b78#32 else 0#32)

theorem stp_xor (a b : BitVec 32) : stp (a ^^^ b) = stp a ^^^ stp b := by
  unfold stp
  rw [BitVec.getLsbD_xor, BitVec.ushiftRight_xor_distrib]
  cases a.getLsbD 0 <;> cases b.getLsbD 0 <;> simp
  · ac_rfl
  · ac_rfl
  · have h : ∀ x y p : BitVec 32, x ^^^ y = x ^^^ p ^^^ (y ^^^ p) := by
      intro x y p
      have : x ^^^ p ^^^ (y ^^^ p) = x ^^^ y ^^^ (p ^^^ p) := by ac_rfl
      rw [this]; simp
    exact h _ _ _

theorem stp_zero : stp 0#32 = 0#32 := by decide

theorem stp_ne (a : BitVec 32) (h : stp a = 0#32) : a = 0#32 := by
  unfold stp at h
  have h31 : (a >>> 1).getLsbD 31 = false := by simp
  cases h0 : a.getLsbD 0
  · rw [h0] at h
    simp at h
    apply BitVec.eq_of_getLsbD_eq
    intro i hi
    cases i with
    | zero => simpa using h0
    | succ k =>
      have := congrArg (fun x => x.getLsbD k) h
      simp at this
      simpa [Nat.add_comm] using this
  · rw [h0] at h
    have := congrArg (fun x => x.getLsbD 31) h
    rw [BitVec.getLsbD_xor, h31] at this
    simp at this

def stps : Nat → BitVec 32 → BitVec 32
  | 0, a => a
  | n + 1, a => stps n (stp a)

theorem stps_xor (n : Nat) (a b : BitVec 32) : stps n (a ^^^ b) = stps n a ^^^ stps n b := by
  induction n generalizing a b with
  | zero => rfl
  | succ n ih => simp [stps, stp_xor, ih]

theorem stps_zero (n : Nat) : stps n 0#32 = 0#32 := by
  induction n with
  | zero => rfl
  | succ n ih => simp [stps, stp_zero, ih]

theorem stps_ne (n : Nat) (a : BitVec 32) (h : stps n a = 0#32) : a = 0#32 := by
  induction n generalizing a with
  | zero => exact h
  | succ n ih => exact stp_ne _ (ih _ h)

theorem stps_add (m n : Nat) (a : BitVec 32) : stps (m + n) a = stps n (stps m a) := by
  induction m generalizing a with
  | zero => simp [stps]
  | succ m ih => rw [Nat.succ_add]; simp [stps, ih]

/-- What four steps make of a half of a byte. -/
def tab (i : BitVec 32) : BitVec 32 := stps 4 i

theorem stps_shift (k : Nat) (a : BitVec 32) (hk : k ≤ 32) (h : ∀ i, i < k → a.getLsbD i = false) : stps k a = a >>> k := by
  induction k generalizing a with
  | zero => simp [stps]
  | succ k ih =>
    have h0 : a.getLsbD 0 = false := h 0 (by omega)
    have e : stp a = a >>> 1 := by unfold stp; rw [h0]; simp
    rw [stps, e, ih (a >>> 1) (by omega)]
    · rw [← BitVec.shiftRight_add, Nat.add_comm]
    · intro i hi; rw [BitVec.getLsbD_ushiftRight]; rw [Nat.add_comm]; exact h (i + 1) (by omega)

theorem half4 (n : BitVec 32) : stps 4 n = (n >>> 4) ^^^ tab (n &&& 15#32) := by
  have e : n = (n &&& ~~~15#32) ^^^ (n &&& 15#32) := by
    apply BitVec.eq_of_getLsbD_eq
    intro i hi
    simp only [BitVec.getLsbD_xor, BitVec.getLsbD_and, BitVec.getLsbD_not]
    cases n.getLsbD i <;> simp [hi]
  have e2 : (n &&& ~~~15#32) >>> 4 = n >>> 4 := by
    apply BitVec.eq_of_getLsbD_eq
    intro i hi
    simp only [BitVec.getLsbD_ushiftRight, BitVec.getLsbD_and, BitVec.getLsbD_not]
    by_cases h : 4 + i < 32
    · have h15 : (15#32).getLsbD (4 + i) = false := by
        have : ∀ j : Fin 28, (15#32).getLsbD (4 + j.val) = false := by decide
        exact this ⟨i, by omega⟩
      rw [h15]; simp [h]
    · rw [BitVec.getLsbD_of_ge n (4 + i) (by omega)]; simp
  conv => lhs; rw [e]
  rw [stps_xor, stps_shift 4 (n &&& ~~~15#32) (by omega), e2]
  · rfl
  · intro i hi
    have : ∀ j : Fin 4, (~~~15#32).getLsbD j.val = false := by decide
    rw [BitVec.getLsbD_and, this ⟨i, hi⟩]; simp

/-- A byte's step. -/
def byt (n : BitVec 32) (x : UInt8) : BitVec 32 := stps 8 (n ^^^ x.toBitVec.setWidth 32)

theorem byt_two (n : BitVec 32) (x : UInt8) :
    byt n x = ((((n ^^^ x.toBitVec.setWidth 32) >>> 4) ^^^ tab ((n ^^^ x.toBitVec.setWidth 32) &&& 15#32)) >>> 4) ^^^
      tab (((((n ^^^ x.toBitVec.setWidth 32) >>> 4) ^^^ tab ((n ^^^ x.toBitVec.setWidth 32) &&& 15#32))) &&& 15#32) := by
  have h8 : byt n x = stps 4 (stps 4 (n ^^^ x.toBitVec.setWidth 32)) := stps_add 4 4 _
  rw [h8, half4 (n ^^^ _), half4 (_ ^^^ tab _)]

def run (n : BitVec 32) (l : List UInt8) : BitVec 32 := l.foldl byt n

/-- The checksum of what had s, and l behind it. -/
def more (s : BitVec 32) (l : List UInt8) : BitVec 32 := ~~~ run (~~~ s) l
def sum (l : List UInt8) : BitVec 32 := more 0#32 l

theorem run_append (n : BitVec 32) (a b : List UInt8) : run n (a ++ b) = run (run n a) b := by simp [run]
theorem more_append (s : BitVec 32) (a b : List UInt8) : more s (a ++ b) = more (more s a) b := by simp [more, run_append]
theorem more_nil (s : BitVec 32) : more s [] = s := by simp [more, run]

theorem run_snoc (n : BitVec 32) (l : List UInt8) (x : UInt8) : run n (l ++ [x]) = byt (run n l) x := by simp [run]

theorem byt_xor (m n : BitVec 32) (x y : UInt8) : byt (m ^^^ n) (x ^^^ y) = byt m x ^^^ byt n y := by
  unfold byt
  rw [← stps_xor]
  congr 1
  have : (x ^^^ y).toBitVec.setWidth 32 = x.toBitVec.setWidth 32 ^^^ y.toBitVec.setWidth 32 := by
    rw [UInt8.toBitVec_xor, BitVec.setWidth_xor]
  rw [this]; ac_rfl

theorem run_xor (m n : BitVec 32) (a b : List UInt8) (h : a.length = b.length) :
    run (m ^^^ n) (List.zipWith (· ^^^ ·) a b) = run m a ^^^ run n b := by
  induction a generalizing m n b with
  | nil => cases b with
    | nil => simp [run]
    | cons => simp at h
  | cons x a ih => cases b with
    | nil => simp at h
    | cons y b =>
      simp only [run, List.zipWith_cons_cons, List.foldl_cons] at *
      rw [byt_xor]
      exact ih _ _ _ (by simpa using h)

theorem byt_zero : byt 0#32 0 = 0#32 := by decide
theorem run_zeros (k : Nat) : run 0#32 (List.replicate k 0) = 0#32 := by
  induction k with
  | zero => rfl
  | succ k ih => simp only [run, List.replicate_succ, List.foldl_cons, byt_zero] at *; exact ih

theorem linear (a b : List UInt8) (h : a.length = b.length) :
    sum a ^^^ sum b ^^^ sum (List.zipWith (· ^^^ ·) a b) ^^^ sum (List.replicate a.length 0) = 0#32 := by
  unfold sum more
  have h1 := run_xor (~~~ 0#32) (~~~ 0#32) a b h
  have h2 := run_xor (~~~ 0#32) (~~~ 0#32) (List.zipWith (· ^^^ ·) a b) (List.replicate a.length 0) (by simp [h])
  have e : List.zipWith (· ^^^ ·) (List.zipWith (· ^^^ ·) a b) (List.replicate a.length (0 : UInt8)) = List.zipWith (· ^^^ ·) a b := by
    clear h1 h2
    induction a generalizing b with
    | nil => simp
    | cons x a ih => cases b with
      | nil => simp at h
      | cons y b => simp [List.replicate_succ]; exact ih b (by simpa using h)
  have hz : (~~~ 0#32) ^^^ (~~~ 0#32) = 0#32 := by decide
  rw [e, hz] at h2
  rw [hz] at h1
  rw [h1] at h2
  generalize run (~~~ 0#32) a = p at *
  generalize run (~~~ 0#32) b = q at *
  generalize run (~~~ 0#32) (List.zipWith (· ^^^ ·) a b) = r at *
  generalize run (~~~ 0#32) (List.replicate a.length 0) = t at *
  have g : ~~~p ^^^ ~~~q ^^^ ~~~r ^^^ ~~~t = (p ^^^ q) ^^^ (r ^^^ t) := by
    apply BitVec.eq_of_getLsbD_eq
    intro i hi
    simp only [BitVec.getLsbD_xor, BitVec.getLsbD_not, hi]
    cases p.getLsbD i <;> cases q.getLsbD i <;> cases r.getLsbD i <;> cases t.getLsbD i <;> rfl
  rw [g, h2]
  simp

/-! ### Bits -/
def bit (e : Bool) : BitVec 32 := if e then 1#32 else 0#32
def runB (n : BitVec 32) (l : List Bool) : BitVec 32 := l.foldl (fun s e => stp (s ^^^ bit e)) n
def bits8 (x : UInt8) : List Bool := [x.toBitVec.getLsbD 0, x.toBitVec.getLsbD 1, x.toBitVec.getLsbD 2, x.toBitVec.getLsbD 3,
  x.toBitVec.getLsbD 4, x.toBitVec.getLsbD 5, x.toBitVec.getLsbD 6, x.toBitVec.getLsbD 7]

theorem runB_append (n : BitVec 32) (a b : List Bool) : runB n (a ++ b) = runB (runB n a) b := by simp [runB]

theorem runB_lin (n : BitVec 32) (l : List Bool) : runB n l = stps l.length n ^^^ runB 0#32 l := by
  induction l generalizing n with
  | nil => simp [runB, stps]
  | cons e l ih =>
    have e1 : runB n (e :: l) = runB (stp (n ^^^ bit e)) l := rfl
    have e2 : runB 0#32 (e :: l) = runB (stp (0#32 ^^^ bit e)) l := rfl
    rw [e1, e2, ih (stp (n ^^^ bit e)), ih (stp (0#32 ^^^ bit e)), stp_xor, stp_xor, stp_zero, stps_xor]
    simp [stps]
    ac_rfl

theorem byt8 : ∀ x : UInt8, stps 8 (x.toBitVec.setWidth 32) = runB 0#32 (bits8 x) := by
  intro x
  obtain ⟨⟨x⟩⟩ := x
  revert x
  decide +kernel

theorem byt_bits (n : BitVec 32) (x : UInt8) : byt n x = runB n (bits8 x) := by
  rw [runB_lin, ← byt8, byt, stps_xor]; rfl

theorem run_bits (n : BitVec 32) (l : List UInt8) : run n l = runB n (l.flatMap bits8) := by
  induction l generalizing n with
  | nil => rfl
  | cons x l ih =>
    rw [List.flatMap_cons, runB_append, ← byt_bits, ← ih]; rfl

/-- Some bits as a number, the first the lowest. -/
def val : List Bool → BitVec 32
  | [] => 0#32
  | e :: l => bit e ^^^ (val l <<< 1)

theorem val_high (l : List Bool) : ∀ i, l.length ≤ i → (val l).getLsbD i = false := by
  induction l with
  | nil => intro i _; simp [val]
  | cons e l ih =>
    intro i hi
    simp at hi
    have hb : (bit e).getLsbD i = false := by cases e <;> simp [bit]; omega
    by_cases h : i < 32
    · rw [val, BitVec.getLsbD_xor, hb, BitVec.getLsbD_shiftLeft]
      have := ih (i - 1) (by omega)
      simp [this]
    · exact BitVec.getLsbD_of_ge _ _ (by omega)

theorem stp_shl (a : BitVec 32) (h : a.getLsbD 31 = false) : stp (a <<< 1) = a := by
  unfold stp
  have h0 : (a <<< 1).getLsbD 0 = false := by simp
  rw [h0]
  apply BitVec.eq_of_getLsbD_eq
  intro i hi
  simp only [BitVec.getLsbD_xor, BitVec.getLsbD_ushiftRight, BitVec.getLsbD_shiftLeft]
  by_cases h1 : i = 31
  · subst h1; rw [h]; simp
  · have : 1 + i < 32 := by omega
    simp [this]

theorem runB_val (s : BitVec 32) (l : List Bool) (h : l.length ≤ 32) : runB s l = stps l.length (s ^^^ val l) := by
  induction l generalizing s with
  | nil => simp [runB, stps, val]
  | cons e l ih =>
    simp at h
    have e1 : runB s (e :: l) = runB (stp (s ^^^ bit e)) l := rfl
    rw [e1, ih _ (by omega)]
    have e2 : val l = stp (val l <<< 1) := (stp_shl _ (val_high l 31 (by omega))).symm
    conv => lhs; rw [e2]
    rw [← stp_xor, List.length_cons, stps, val]
    congr 2
    ac_rfl

theorem val_zero (l : List Bool) (h : l.length ≤ 32) (hv : val l = 0#32) : ∀ e, e ∈ l → e = false := by
  induction l with
  | nil => intro e he; cases he
  | cons a l ih =>
    simp at h
    rw [val] at hv
    have h0 := congrArg (fun x => x.getLsbD 0) hv
    have ha : a = false := by cases a <;> simp [bit] at h0 ⊢
    subst ha
    have hl : val l = 0#32 := by
      have e2 : val l = stp (val l <<< 1) := (stp_shl _ (val_high l 31 (by omega))).symm
      simp [bit] at hv
      rw [e2, hv, stp_zero]
    intro e he
    cases he with
    | head => rfl
    | tail _ he => exact ih (by omega) hl e he

theorem runB_false (s : BitVec 32) (l : List Bool) (h : ∀ e, e ∈ l → e = false) : runB s l = stps l.length s := by
  induction l generalizing s with
  | nil => rfl
  | cons e l ih =>
    have e1 : runB s (e :: l) = runB (stp (s ^^^ bit e)) l := rfl
    have : e = false := h e (by simp)
    subst this
    rw [e1, ih _ (fun e he => h e (by simp [he]))]
    simp [bit, stps]

/-- A burst of at most 32 bits, noughts ahead and behind: what comes of it is nought just where all its bits are. -/
theorem burst (p c q : List Bool) (hc : c.length ≤ 32) (hp : ∀ e, e ∈ p → e = false) (hq : ∀ e, e ∈ q → e = false) :
    runB 0#32 (p ++ c ++ q) = 0#32 ↔ ∀ e, e ∈ c → e = false := by
  rw [runB_append, runB_append, runB_false _ p hp, stps_zero, runB_val _ c hc, runB_false _ q hq, ← stps_add]
  constructor
  · intro h
    have h1 := stps_ne _ _ h
    exact val_zero c hc (by simpa using h1)
  · intro h
    have : val c = 0#32 := by
      clear hc
      induction c with
      | nil => rfl
      | cons e l ih =>
        have h1 : e = false := h e (by simp)
        subst h1
        rw [val, ih (fun e he => h e (by simp [he]))]
        decide
    rw [this]
    simp [stps_zero]

end Go.Proofs.Ytckmeomhcikmoaa.Crc
