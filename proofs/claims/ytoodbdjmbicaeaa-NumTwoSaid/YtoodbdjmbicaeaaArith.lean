/- Sums, products and quotients of words. No condition. -/
import Derived.Test.YtoodbdjmbicaeaaNear
namespace Go.Proofs.Ytoodbdjmbicaeaa
open Ieee

def theNaN : Nat := 9221120237041090561
def oneW : Nat := 4607182418800017408
/-- A number's bits; those of a NaN are the one's. -/
def bitsW (x : Nat) : Nat := if nanW x then theNaN else x
/-- What an operation gives. -/
def opt (o : Option Nat) : Nat := match o with | some r => bitsW r | none => theNaN
def flip (x : Nat) : Nat := if x < 2 ^ 63 then x + 2 ^ 63 else x - 2 ^ 63
def negV (a : Nat) : Nat := bitsW (flip a)
def absV (a : Nat) : Nat := bitsW (a % 2 ^ 63)

theorem word_eq (neg : Bool) (r : Nat) : double.word neg r = if neg then 2 ^ 63 + r else r := by
  unfold Format.word
  rw [signW]
theorem isNeg_iff {x : Nat} (h : x < 2 ^ 64) : isNeg x = decide (2 ^ 63 ≤ x) := by
  unfold isNeg
  by_cases h1 : 2 ^ 63 ≤ x
  · rw [decide_eq_true h1, show x / 2 ^ 63 = 1 by omega]; rfl
  · rw [decide_eq_false h1, show x / 2 ^ 63 = 0 by omega]; rfl
theorem word_split {x : Nat} (h : x < 2 ^ 64) : double.word (isNeg x) (rung x) = x := by
  rw [word_eq, isNeg_iff h]
  unfold rung
  by_cases h1 : 2 ^ 63 ≤ x
  · rw [decide_eq_true h1, if_pos rfl]; omega
  · rw [decide_eq_false h1, if_neg (by decide)]; omega
theorem rung_word {neg : Bool} {r : Nat} (h : r < 2 ^ 63) : rung (double.word neg r) = r := by
  rw [word_eq]; unfold rung; cases neg <;> simp only [Bool.false_eq_true, if_true, if_false] <;> omega
theorem word_lt' {neg : Bool} {r : Nat} (h : r < 2 ^ 63) : double.word neg r < 2 ^ 64 := by
  rw [word_eq]; cases neg <;> simp only [Bool.false_eq_true, if_true, if_false] <;> omega
theorem isNeg_word {neg : Bool} {r : Nat} (h : r < 2 ^ 63) : isNeg (double.word neg r) = neg := by
  rw [isNeg_iff (word_lt' h), word_eq]; cases neg <;> simp <;> omega
theorem flip_lt {x : Nat} (h : x < 2 ^ 64) : flip x < 2 ^ 64 := by unfold flip; split <;> omega
theorem rung_flip {x : Nat} (h : x < 2 ^ 64) : rung (flip x) = rung x := by unfold flip rung; split <;> omega
theorem isNeg_flip {x : Nat} (h : x < 2 ^ 64) : isNeg (flip x) = !isNeg x := by
  rw [isNeg_iff (flip_lt h), isNeg_iff h]
  unfold flip
  by_cases h1 : x < 2 ^ 63
  · rw [if_pos h1, decide_eq_true (by omega), decide_eq_false (by omega)]; rfl
  · rw [if_neg h1, decide_eq_false (by omega), decide_eq_true (by omega)]; rfl
theorem flip_word {neg : Bool} {r : Nat} (h : r < 2 ^ 63) : flip (double.word neg r) = double.word (!neg) r := by
  unfold flip
  rw [word_eq, word_eq]
  cases neg
  · simp only [Bool.false_eq_true, if_false, Bool.not_false, if_true]; rw [if_pos h]; omega
  · simp only [Bool.not_true, Bool.false_eq_true, if_false, if_true]; rw [if_neg (by omega)]; omega
theorem flip_flip {x : Nat} (h : x < 2 ^ 64) : flip (flip x) = x := by unfold flip; split <;> split <;> omega
theorem nanW_eq {x : Nat} : nanW x = decide (infR < rung x) := rfl
theorem nan_false {x : Nat} (h : nanW x = false) : rung x ≤ infR := by
  rw [nanW_eq] at h
  have := of_decide_eq_false h
  omega
theorem nan_of {x : Nat} (h : rung x ≤ infR) : nanW x = false := decide_eq_false (by omega)
theorem infR_lt : infR < 2 ^ 63 := by decide
theorem nan_word {neg : Bool} {r : Nat} (h : r ≤ infR) : nanW (double.word neg r) = false := by
  have := infR_lt
  exact nan_of (by rw [rung_word (by omega)]; exact h)
theorem bitsW_of {x : Nat} (h : nanW x = false) : bitsW x = x := by unfold bitsW; rw [h]; rfl
theorem read_flip {x : Nat} (h : x < 2 ^ 64) : double.read (flip x) = (double.read x).opposite := by
  rw [read_eq, read_eq x, rung_flip h, isNeg_flip h]
  split
  · rfl
  · split <;> rfl
theorem ival_flip {x : Nat} (h : x < 2 ^ 64) : ival (flip x) = -ival x := by
  unfold ival
  rw [rung_flip h, isNeg_flip h]
  cases isNeg x <;> simp
theorem write_inf (s : Bool) : double.write (.infinity s) = double.word s infR := by
  show double.word s double.infRung = _
  rw [infW]
theorem write_num (s : Bool) (m : Nat) (p : Int) : double.write (.number s m p) = double.word s (min (rnd m p) infR) := nearest_eq s m p
theorem read_num {x : Nat} (h : rung x < infR) : double.read x = .number (isNeg x) (mg (rung x)) (-1074 + (pl (rung x) : Nat)) := by rw [read_eq, if_pos h]
theorem read_inf {x : Nat} (h : rung x = infR) : double.read x = .infinity (isNeg x) := by rw [read_eq, if_neg (by omega), if_pos h]
theorem read_nan {x : Nat} (h : nanW x = true) : double.read x = .nan (isNeg x) (rung x - infR) := by
  have h := of_decide_eq_true h
  rw [read_eq, if_neg (by omega), if_neg (by omega)]

theorem sum_comm (d e : Datum) : d.sum e = e.sum d := by
  cases d with
  | number s m i =>
    cases e with
    | number t n j =>
      show some _ = some _
      simp only [Int.min_comm i j, Int.add_comm (signed s m _), Bool.and_comm s t]
    | infinity t => rfl
    | nan t f => rfl
  | infinity s =>
    cases e with
    | number t n j => rfl
    | infinity t =>
      show (if s = t then some (Datum.infinity s) else none) = (if t = s then some (Datum.infinity t) else none)
      by_cases h : s = t
      · rw [if_pos h, if_pos h.symm, h]
      · rw [if_neg h, if_neg (fun e => h e.symm)]
    | nan t f => rfl
  | nan s f => cases e <;> rfl
theorem product_comm (d e : Datum) : d.product e = e.product d := by
  cases d with
  | number s m i =>
    cases e with
    | number t n j =>
      show some _ = some _
      rw [Bool.xor_comm, Nat.mul_comm, Int.add_comm]
    | infinity t => show (if m = 0 then none else some (Datum.infinity (t ^^ s))) = _; rfl
    | nan t f => rfl
  | infinity s =>
    cases e with
    | number t n j => rfl
    | infinity t => show some (Datum.infinity (s ^^ t)) = some (Datum.infinity (t ^^ s)); rw [Bool.xor_comm]
    | nan t f => rfl
  | nan s f => cases e <;> rfl
theorem add_comm' (a b : Nat) : double.add a b = double.add b a := by unfold Format.add; rw [sum_comm]
theorem mul_comm' (a b : Nat) : double.mul a b = double.mul b a := by unfold Format.mul; rw [product_comm]
theorem sub_flip {a b : Nat} (hb : b < 2 ^ 64) : double.sub a b = double.add a (flip b) := by
  unfold Format.sub Format.add
  rw [read_flip hb]

/-- A finite sum. -/
theorem add_fin {a b : Nat} (ha : rung a < infR) (hb : rung b < infR) : ∃ r, Near 0 (ival a + ival b).natAbs r ∧
    double.add a b = some (double.word (if ival a + ival b = 0 then isNeg a && isNeg b else decide (ival a + ival b < 0)) (min r infR)) := by
  unfold Format.add
  rw [read_num ha, read_num hb]
  obtain ⟨p, hp⟩ : ∃ p, pl (rung a) = p := ⟨_, rfl⟩
  obtain ⟨q, hq⟩ : ∃ q, pl (rung b) = q := ⟨_, rfl⟩
  have va : val (rung a) = mg (rung a) * 2 ^ p := by rw [← hp]; rfl
  have vb : val (rung b) = mg (rung b) * 2 ^ q := by rw [← hq]; rfl
  rw [hp, hq]
  obtain ⟨k, hk⟩ : ∃ k, min p q = k := ⟨_, rfl⟩
  have hbase : min (-1074 + (p : Int)) (-1074 + (q : Int)) = -1074 + (k : Int) := by omega
  have e1 : (-1074 + (p : Int) - (-1074 + (k : Int))).toNat = p - k := by omega
  have e2 : (-1074 + (q : Int) - (-1074 + (k : Int))).toNat = q - k := by omega
  show ∃ r, _ ∧ some (double.write (Datum.number (if signed (isNeg a) (mg (rung a)) (-1074 + (p : Int) - min (-1074 + (p : Int)) (-1074 + (q : Int))).toNat + signed (isNeg b) (mg (rung b)) (-1074 + (q : Int) - min (-1074 + (p : Int)) (-1074 + (q : Int))).toNat = 0 then isNeg a && isNeg b else decide (signed (isNeg a) (mg (rung a)) (-1074 + (p : Int) - min (-1074 + (p : Int)) (-1074 + (q : Int))).toNat + signed (isNeg b) (mg (rung b)) (-1074 + (q : Int) - min (-1074 + (p : Int)) (-1074 + (q : Int))).toNat < 0)) (signed (isNeg a) (mg (rung a)) (-1074 + (p : Int) - min (-1074 + (p : Int)) (-1074 + (q : Int))).toNat + signed (isNeg b) (mg (rung b)) (-1074 + (q : Int) - min (-1074 + (p : Int)) (-1074 + (q : Int))).toNat).natAbs (min (-1074 + (p : Int)) (-1074 + (q : Int))))) = _
  rw [hbase, e1, e2]
  obtain ⟨t, ht⟩ : ∃ t, signed (isNeg a) (mg (rung a)) (p - k) + signed (isNeg b) (mg (rung b)) (q - k) = t := ⟨_, rfl⟩
  rw [ht]
  have hsgn : ∀ (x P : Nat), val (rung x) = mg (rung x) * 2 ^ P → k ≤ P → signed (isNeg x) (mg (rung x)) (P - k) * ((2 ^ k : Nat) : Int) = ival x := by
    intro x P h hk
    have s1 : mg (rung x) * 2 ^ (P - k) * 2 ^ k = val (rung x) := by
      rw [h, Nat.mul_assoc, ← Nat.pow_add]; congr 2; omega
    rw [signed_eq]
    unfold ival
    rw [← s1]
    split
    · rw [Int.neg_mul, ← Int.natCast_mul]
    · rw [← Int.natCast_mul]
  have hT : t * ((2 ^ k : Nat) : Int) = ival a + ival b := by
    rw [← ht, Int.add_mul, hsgn a p va (by omega), hsgn b q vb (by omega)]
  have kpos : (0 : Int) < ((2 ^ k : Nat) : Int) := by have := Nat.two_pow_pos k; omega
  have h0 : t = 0 ↔ ival a + ival b = 0 := by
    rw [← hT]
    constructor
    · intro h; rw [h]; simp
    · intro h; rcases Int.mul_eq_zero.1 h with h | h
      · exact h
      · omega
  have hneg : t < 0 ↔ ival a + ival b < 0 := by
    rw [← hT]
    have := Int.mul_lt_mul_right (a := ((2 ^ k : Nat) : Int)) (b := t) (c := 0) kpos
    rw [Int.zero_mul] at this
    exact this.symm
  refine ⟨rnd t.natAbs (-1074 + (k : Int)), ?_, ?_⟩
  · have := rnd_near t.natAbs (-1074 + (k : Int)) 0 k (by omega)
    have e : (ival a + ival b).natAbs = t.natAbs * 2 ^ k := by rw [← hT, Int.natAbs_mul]; rfl
    rw [e]
    exact this
  · rw [write_num]
    congr 2
    simp only [h0, hneg]
end Go.Proofs.Ytoodbdjmbicaeaa
