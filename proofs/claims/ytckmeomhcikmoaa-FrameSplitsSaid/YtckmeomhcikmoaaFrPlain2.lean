/- What the laws of frames ask of the scan, in plain Lean: the examples, other segments, turned sectors, records that are taken one behind the other. No condition beyond the sizes named. -/
import Derived.Test.YtckmeomhcikmoaaFrLaws
namespace Go.Proofs.Ytckmeomhcikmoaa.Fr
open Crc

/-- What Split gives: the sectors, the error. -/
def splitW (seg : BitVec 32) (a : Int) (r : List UInt8) : List (List UInt8) × Nat :=
  if 7680 < r.length then ([], 111) else if a < 0 ∨ 32 - (cnt r : Int) < a then ([], 1) else (splitL seg a.toNat r, 0)

theorem splitW_ok {seg : BitVec 32} {j : Nat} {r : List UInt8} (h : r.length ≤ 7680) (hj : j + cnt r ≤ 32) : splitW seg (j : Int) r = (splitL seg j r, 0) := by
  unfold splitW
  rw [if_neg (by omega), if_neg (by omega), Int.toNat_natCast]
theorem splitW_no {seg : BitVec 32} {j : Nat} {r : List UInt8} (h : ¬ (r.length ≤ 7680 ∧ j + cnt r ≤ 32)) : (splitW seg (j : Int) r).1 = [] ∧ (splitW seg (j : Int) r).2 ≠ 0 := by
  unfold splitW
  by_cases h1 : 7680 < r.length
  · rw [if_pos h1]; exact ⟨rfl, by decide⟩
  · rw [if_neg h1, if_pos (by omega)]; exact ⟨rfl, by decide⟩

/-- A step of the scan, told for the walk. -/
inductive Way (S stop push cont : List (List UInt8) × Nat) (kz : Int) (g : Bool) (pl n1 : Nat) : Prop
  | w1 (h : kz = 1) (hg : g = true) (hS : S = stop)
  | w2 (h : kz = 1) (hg : g = false) (hn : (7680 : Int) < (n1 : Int)) (hS : S = stop)
  | w3 (h : kz = 1) (hg : g = false) (hn : ¬ (7680 : Int) < (n1 : Int)) (hS : S = push)
  | w4 (h : kz = 2) (hg : g = true) (hS : S = stop)
  | w5 (h : kz = 2) (hg : g = false) (hp : ((pl : Int) != 240) = true) (hS : S = stop)
  | w6 (h : kz = 2) (hg : g = false) (hp : ((pl : Int) != 240) = false) (hn : (7680 : Int) < (n1 : Int)) (hS : S = stop)
  | w7 (h : kz = 2) (hg : g = false) (hp : ((pl : Int) != 240) = false) (hn : ¬ (7680 : Int) < (n1 : Int)) (hS : S = cont)
  | w8 (h : kz = 3) (hg : g = false) (hS : S = stop)
  | w9 (h : kz = 3) (hg : g = true) (hp : ((pl : Int) != 240) = true) (hS : S = stop)
  | w10 (h : kz = 3) (hg : g = true) (hp : ((pl : Int) != 240) = false) (hn : (7680 : Int) < (n1 : Int)) (hS : S = stop)
  | w11 (h : kz = 3) (hg : g = true) (hp : ((pl : Int) != 240) = false) (hn : ¬ (7680 : Int) < (n1 : Int)) (hS : S = cont)
  | w12 (h : kz = 4) (hg : g = false) (hS : S = stop)
  | w13 (h : kz = 4) (hg : g = true) (hp : ((pl : Int) == 0) = true) (hS : S = stop)
  | w14 (h : kz = 4) (hg : g = true) (hp : ((pl : Int) == 0) = false) (hn : (7680 : Int) < (n1 : Int)) (hS : S = stop)
  | w15 (h : kz = 4) (hg : g = true) (hp : ((pl : Int) == 0) = false) (hn : ¬ (7680 : Int) < (n1 : Int)) (hS : S = push)
  | w16 (h1 : (kz == 1) = false) (h2 : (kz == 2) = false) (h3 : (kz == 3) = false) (h4 : (kz == 4) = false) (hS : S = stop)

theorem scan_ways (seg : BitVec 32) (b : List UInt8) (l : List (List UInt8)) (j : Nat) (out : List (List UInt8)) (r : List UInt8) (d : Nat) (g : Bool) (k : UInt8) (p : List UInt8) (hk : k = (piece seg j b).1) (hp : p = (piece seg j b).2)
    (kz : Int) (hkz : kz = (k.toNat : Int)) (n1 : Nat) (hn1 : n1 = r.length + p.length) :
    Way (scan seg (b :: l) j out r d g) (out, d) (scan seg l (j + 1) (out ++ [r ++ p]) [] (j + 1) false) (scan seg l (j + 1) out (r ++ p) d true) kz g p.length n1 := by
  obtain ⟨S, hS⟩ : ∃ S, S = scan seg (b :: l) j out r d g := ⟨_, rfl⟩
  obtain ⟨A, hA⟩ : ∃ A, A = scan seg l (j + 1) (out ++ [r ++ p]) [] (j + 1) false := ⟨_, rfl⟩
  obtain ⟨B, hB⟩ : ∃ B, B = scan seg l (j + 1) out (r ++ p) d true := ⟨_, rfl⟩
  have hS' := hS
  rw [scan] at hS
  try dsimp only at hS
  rw [← hk, ← hp, List.length_append, ← hn1, ← hA, ← hB] at hS
  rw [← hS', ← hA, ← hB]
  clear hS' hA hB hk hp hn1
  have hstop : ¬ (k = 1 ∧ g = false ∨ k = 4 ∧ g = true ∧ 0 < p.length) → ¬ ((k = 2 ∧ g = false ∨ k = 3 ∧ g = true) ∧ p.length = 240) → S = (out, d) := fun q1 q2 => by
    rw [hS, if_neg q1, if_neg q2]
    split <;> rfl
  have one : ∀ n : Nat, k.toNat = n → n < 256 → k = UInt8.ofNat n := fun n h hn => UInt8.toNat_inj.1 (by rw [h, UInt8.toNat_ofNat']; omega)
  have hcase : k.toNat = 1 ∨ k.toNat = 2 ∨ k.toNat = 3 ∨ k.toNat = 4 ∨ (k.toNat ≠ 1 ∧ k.toNat ≠ 2 ∧ k.toNat ≠ 3 ∧ k.toNat ≠ 4) := by omega
  have hN : (7680 < n1 ∧ (7680 : Int) < (n1 : Int)) ∨ (¬ 7680 < n1 ∧ ¬ (7680 : Int) < (n1 : Int)) := by omega
  have hP : (p.length = 240 ∧ ((p.length : Int) != 240) = false) ∨ (¬ p.length = 240 ∧ ((p.length : Int) != 240) = true) := by
    by_cases h : p.length = 240
    · left; exact ⟨h, by rw [h]; rfl⟩
    · right; exact ⟨h, by simp; omega⟩
  have hZ : (¬ 0 < p.length ∧ ((p.length : Int) == 0) = true) ∨ (0 < p.length ∧ ((p.length : Int) == 0) = false) := by
    by_cases h : p.length = 0
    · left; exact ⟨by omega, by rw [h]; rfl⟩
    · right; exact ⟨by omega, by simp; intro e; rw [e] at h; exact h rfl⟩
  have n12 : ¬ (UInt8.ofNat 1 = 2) := by decide
  have n13 : ¬ (UInt8.ofNat 1 = 3) := by decide
  have n14 : ¬ (UInt8.ofNat 1 = 4) := by decide
  have n21 : ¬ (UInt8.ofNat 2 = 1) := by decide
  have n23 : ¬ (UInt8.ofNat 2 = 3) := by decide
  have n24 : ¬ (UInt8.ofNat 2 = 4) := by decide
  have n31 : ¬ (UInt8.ofNat 3 = 1) := by decide
  have n32 : ¬ (UInt8.ofNat 3 = 2) := by decide
  have n34 : ¬ (UInt8.ofNat 3 = 4) := by decide
  have n41 : ¬ (UInt8.ofNat 4 = 1) := by decide
  have n42 : ¬ (UInt8.ofNat 4 = 2) := by decide
  have n43 : ¬ (UInt8.ofNat 4 = 3) := by decide
  have m1 : UInt8.ofNat 1 = 1 := rfl
  have m2 : UInt8.ofNat 2 = 2 := rfl
  have m3 : UInt8.ofNat 3 = 3 := rfl
  have m4 : UInt8.ofNat 4 = 4 := rfl
  rcases hcase with h | h | h | h | h
  · obtain rfl := one 1 h (by decide)
    have hkz' : kz = 1 := by rw [hkz]; rfl
    cases g with
    | true => exact .w1 hkz' rfl (hstop (by rintro (⟨_, hq⟩ | ⟨hq, _⟩); exact Bool.noConfusion hq; exact n14 hq) (by rintro ⟨⟨hq, _⟩ | ⟨hq, _⟩, _⟩; exact n12 hq; exact n13 hq))
    | false =>
      rcases hN with ⟨a, a'⟩ | ⟨a, a'⟩
      · exact .w2 hkz' rfl a' (by rw [hS, if_pos a])
      · exact .w3 hkz' rfl a' (by rw [hS, if_neg a, if_pos (.inl ⟨m1, rfl⟩)])
  · obtain rfl := one 2 h (by decide)
    have hkz' : kz = 2 := by rw [hkz]; rfl
    have c1 : ∀ g : Bool, ¬ (UInt8.ofNat 2 = 1 ∧ g = false ∨ UInt8.ofNat 2 = 4 ∧ g = true ∧ 0 < p.length) := fun g hq => by rcases hq with ⟨hq, _⟩ | ⟨hq, _⟩; exact n21 hq; exact n24 hq
    cases g with
    | true => exact .w4 hkz' rfl (hstop (c1 _) (by rintro ⟨⟨_, hq⟩ | ⟨hq, _⟩, _⟩; exact Bool.noConfusion hq; exact n23 hq))
    | false =>
      rcases hP with ⟨b, b'⟩ | ⟨b, b'⟩
      · rcases hN with ⟨a, a'⟩ | ⟨a, a'⟩
        · exact .w6 hkz' rfl b' a' (by rw [hS, if_pos a])
        · exact .w7 hkz' rfl b' a' (by rw [hS, if_neg a, if_neg (c1 _), if_pos ⟨.inl ⟨m2, rfl⟩, b⟩])
      · exact .w5 hkz' rfl b' (hstop (c1 _) (fun hq => b hq.2))
  · obtain rfl := one 3 h (by decide)
    have hkz' : kz = 3 := by rw [hkz]; rfl
    have c1 : ∀ g : Bool, ¬ (UInt8.ofNat 3 = 1 ∧ g = false ∨ UInt8.ofNat 3 = 4 ∧ g = true ∧ 0 < p.length) := fun g hq => by rcases hq with ⟨hq, _⟩ | ⟨hq, _⟩; exact n31 hq; exact n34 hq
    cases g with
    | false => exact .w8 hkz' rfl (hstop (c1 _) (by rintro ⟨⟨hq, _⟩ | ⟨_, hq⟩, _⟩; exact n32 hq; exact Bool.noConfusion hq))
    | true =>
      rcases hP with ⟨b, b'⟩ | ⟨b, b'⟩
      · rcases hN with ⟨a, a'⟩ | ⟨a, a'⟩
        · exact .w10 hkz' rfl b' a' (by rw [hS, if_pos a])
        · exact .w11 hkz' rfl b' a' (by rw [hS, if_neg a, if_neg (c1 _), if_pos ⟨.inr ⟨m3, rfl⟩, b⟩])
      · exact .w9 hkz' rfl b' (hstop (c1 _) (fun hq => b hq.2))
  · obtain rfl := one 4 h (by decide)
    have hkz' : kz = 4 := by rw [hkz]; rfl
    have c2 : ∀ g : Bool, ¬ ((UInt8.ofNat 4 = 2 ∧ g = false ∨ UInt8.ofNat 4 = 3 ∧ g = true) ∧ p.length = 240) := fun g hq => by rcases hq.1 with ⟨hq, _⟩ | ⟨hq, _⟩; exact n42 hq; exact n43 hq
    cases g with
    | false => exact .w12 hkz' rfl (hstop (by rintro (⟨hq, _⟩ | ⟨_, hq, _⟩); exact n41 hq; exact Bool.noConfusion hq) (c2 _))
    | true =>
      rcases hZ with ⟨b, b'⟩ | ⟨b, b'⟩
      · exact .w13 hkz' rfl b' (hstop (by rintro (⟨hq, _⟩ | ⟨_, _, hq⟩); exact n41 hq; exact b hq) (c2 _))
      · rcases hN with ⟨a, a'⟩ | ⟨a, a'⟩
        · exact .w14 hkz' rfl b' a' (by rw [hS, if_pos a])
        · exact .w15 hkz' rfl b' a' (by rw [hS, if_neg a, if_pos (.inr ⟨m4, rfl, b⟩)])
  · have q : ∀ n : Nat, k.toNat ≠ n → n < 256 → ¬ (k = UInt8.ofNat n) := fun n h hn e => h (by rw [e, UInt8.toNat_ofNat']; omega)
    have q1 := q 1 h.1 (by decide)
    have q2 := q 2 h.2.1 (by decide)
    have q3 := q 3 h.2.2.1 (by decide)
    have q4 := q 4 h.2.2.2 (by decide)
    rw [m1] at q1
    rw [m2] at q2
    rw [m3] at q3
    rw [m4] at q4
    refine .w16 (by rw [hkz]; simp; omega) (by rw [hkz]; simp; omega) (by rw [hkz]; simp; omega) (by rw [hkz]; simp; omega) ?_
    exact hstop (by rintro (⟨hq, _⟩ | ⟨hq, _⟩); exact q1 hq; exact q4 hq) (by rintro ⟨⟨hq, _⟩ | ⟨hq, _⟩, _⟩; exact q2 hq; exact q3 hq)

/-- The examples. -/
def noughts (n : Nat) : List UInt8 := List.replicate n 0
theorem noughts_len (n : Nat) : (noughts n).length = n := by simp [noughts]
theorem cnt241 : cnt (noughts 241) = 2 := by unfold cnt; rw [noughts_len]; decide
theorem kn1 : splitW 7#32 3 [97, 98] = ([sect 1 7#32 3 [97, 98]], 0) := rfl
theorem kn1_head (c : List UInt8) : (hd 1 7#32 3 2 ++ [97, 98] ++ c).take 14 = [66, 76, 1, 0, 7, 0, 0, 0, 3, 0, 2, 0, 97, 98] := rfl
theorem kn1_take : (sect 1 7#32 3 [97, 98]).take 14 = [66, 76, 1, 0, 7, 0, 0, 0, 3, 0, 2, 0, 97, 98] := by
  unfold sect
  generalize le32 (sum (body 1 7#32 3 [97, 98])) = c
  unfold body
  rw [List.append_assoc]
  exact kn1_head _
theorem kn2 : splitW 1#32 0 (noughts 241) = (splitL 1#32 0 (noughts 241), 0) := splitW_ok (j := 0) (by rw [noughts_len]; decide) (by rw [cnt241]; decide)
theorem kn2_len : (splitL 1#32 0 (noughts 241)).length = 2 := by rw [splitL_len, cnt241]
theorem kn3 : splitW 1#32 31 (noughts 241) = ([], 1) := by
  unfold splitW
  rw [cnt241, noughts_len]
  rfl
theorem kn4 : scan 1#32 (splitL 1#32 0 (noughts 241) ++ [noughts 256]) 0 [] [] 0 false = ([noughts 241], 2) := by
  rw [scan_split (by rw [noughts_len]; decide) (by rw [cnt241]; decide), cnt241, noughts, scan_bad (piece_zeros _ _)]
  rfl
theorem kn5 : scan 2#32 (splitL 1#32 0 (noughts 241)) 0 [] [] 0 false = ([], 0) := by
  have h := splitL_get (seg := 1#32) (j := 0) (r := noughts 241) (i := 0) (by rw [cnt241]; decide)
  cases hs : splitL 1#32 0 (noughts 241) with
  | nil => rw [hs] at h; cases h
  | cons b l =>
    rw [hs] at h
    simp at h
    subst h
    exact scan_bad (piece_other (by decide) (by decide) (by decide)) _ _ _ _

/-- Sectors of another segment, or from another place. -/
theorem scan_others (seg oth : BitVec 32) (k : Nat) (r : List UInt8) (hr : r.length ≤ 2000) (hk : k < 20) :
    scan seg (splitL oth k r) 0 [] [] 0 false = if seg = oth ∧ k = 0 then ([r], cnt r) else ([], 0) := by
  have hc : cnt r ≤ 9 := by unfold cnt; omega
  by_cases h : seg = oth ∧ k = 0
  · rw [if_pos h]
    obtain ⟨rfl, rfl⟩ := h
    have := scan_split (seg := seg) (j := 0) (r := r) (out := []) (by omega) (by omega) 0 []
    rw [List.append_nil] at this
    rw [this, scan]
    simp
  · rw [if_neg h]
    have hg := splitL_get (seg := oth) (j := k) (r := r) (i := 0) (cnt_pos r)
    cases hs : splitL oth k r with
    | nil => rw [hs] at hg; cases hg
    | cons b l =>
      rw [hs] at hg
      simp at hg
      subst hg
      exact scan_bad (piece_other (by decide) (by omega) (fun e => h ⟨e.1, by have := e.2; omega⟩)) _ _ _ _

/-- A record of which one sector has been turned, or none. -/
theorem scan_turned (seg : BitVec 32) (r : List UInt8) (hr : r.length ≤ 7680) (i frm : Nat) (c : BitVec 32) (hi : i < cnt r) :
    scan seg ((splitL seg 0 r).set i (flips (one seg 0 r (cnt r) i) frm c 32)) 0 [] [] 0 false = if turned (one seg 0 r (cnt r) i) frm c 32 = true then ([], 0) else ([r], cnt r) := by
  have hc := cnt_le hr
  by_cases h : turned (one seg 0 r (cnt r) i) frm c 32 = true
  · rw [if_pos h]
    have := scan_hurt (seg := seg) (j := 0) (r := r) (out := []) (x := flips (one seg 0 r (cnt r) i) frm c 32) hr (by omega) 0 hi (piece_flips frm c h) []
    rw [List.append_nil] at this
    exact this
  · rw [if_neg h, flips_not _ _ _ _ (by simpa using h)]
    have e : (splitL seg 0 r).set i (one seg 0 r (cnt r) i) = splitL seg 0 r := by
      apply List.ext_getElem?
      intro n
      rw [List.getElem?_set]
      by_cases hn : i = n
      · subst hn; rw [if_pos rfl, if_pos (by rw [splitL_len]; exact hi), splitL_get hi]
      · rw [if_neg hn]
    rw [e]
    have := scan_split (seg := seg) (j := 0) (r := r) (out := []) hr (by omega) 0 []
    rw [List.append_nil] at this
    rw [this, scan]
    simp

/-- The records that are taken, one behind the other: those that fit. -/
def accB (rs : List (List UInt8)) (r : List UInt8) : Bool := decide (r.length ≤ 7680 ∧ tot rs + cnt r ≤ 32)
def acc1 (rs : List (List UInt8)) (r : List UInt8) : List (List UInt8) := if accB rs r then rs ++ [r] else rs
def acc (l : List (List UInt8)) : List (List UInt8) := l.foldl acc1 []
theorem acc_snoc (l : List (List UInt8)) (r : List UInt8) : acc (l ++ [r]) = acc1 (acc l) r := by unfold acc; rw [List.foldl_append]; rfl
theorem acc_ok (l : List (List UInt8)) : (∀ r ∈ acc l, r.length ≤ 7680) ∧ tot (acc l) ≤ 32 ∧ (acc l).length ≤ l.length := by
  suffices h : ∀ n, n ≤ l.length → (∀ r ∈ acc (l.take n), r.length ≤ 7680) ∧ tot (acc (l.take n)) ≤ 32 ∧ (acc (l.take n)).length ≤ n by
    have := h l.length (Nat.le_refl _)
    rwa [List.take_length] at this
  intro n
  induction n with
  | zero => intro _; simp [acc, tot]
  | succ n ih =>
    intro hn
    obtain ⟨h1, h2, h3⟩ := ih (by omega)
    rw [List.take_succ_eq_append_getElem hn, acc_snoc]
    unfold acc1
    by_cases h : accB (acc (l.take n)) l[n] = true
    · rw [if_pos h]
      have h' : l[n].length ≤ 7680 ∧ tot (acc (l.take n)) + cnt l[n] ≤ 32 := of_decide_eq_true h
      refine ⟨fun r hr => ?_, by rw [tot_snoc]; exact h'.2, by simp; omega⟩
      rcases List.mem_append.1 hr with hr | hr
      · exact h1 r hr
      · simp at hr; subst hr; exact h'.1
    · rw [if_neg h]
      exact ⟨h1, h2, by omega⟩
theorem begs_mono (rs : List (List UInt8)) (j i s t : Nat) (h1 : (begs j rs)[i]? = some s) (h2 : (begs j rs)[i + 1]? = some t) : s < t := by
  induction rs generalizing j i with
  | nil => simp [begs] at h1
  | cons r rs ih =>
    cases i with
    | zero =>
      rw [begs, List.getElem?_cons_succ] at h2
      rw [begs] at h1
      simp at h1
      subst h1
      cases rs with
      | nil => simp [begs] at h2
      | cons r' rs => rw [begs] at h2; simp at h2; subst h2; have := cnt_pos r; omega
    | succ i =>
      rw [begs, List.getElem?_cons_succ] at h1 h2
      exact ih _ _ h1 h2
/-- What the scan finds of all of them; with one sector a nought. -/
theorem scan_acc (seg : BitVec 32) (l : List (List UInt8)) : scan seg (lay seg 0 (acc l)) 0 [] [] 0 false = (acc l, tot (acc l)) := by
  have h := acc_ok l
  have := scan_lay (seg := seg) (acc l) h.1 0 (by omega) []
  simpa using this
theorem scan_acc_hurt (seg : BitVec 32) (l : List (List UInt8)) (k m s : Nat) (hk : k < tot (acc l)) (hm : (begs 0 (acc l))[m]? = some s) (hs : s ≤ k) (hn : ∀ t, (begs 0 (acc l))[m + 1]? = some t → k < t) :
    scan seg ((lay seg 0 (acc l)).set k (noughts 256)) 0 [] [] 0 false = ((acc l).take m, s) := by
  have h := acc_ok l
  have := scan_lay_hurt (seg := seg) (z := noughts 256) (fun j => piece_zeros seg j) (acc l) h.1 0 (by omega) [] k m s hm (by omega) (fun t ht => by have := hn t ht; omega) hk
  simpa using this
end Go.Proofs.Ytckmeomhcikmoaa.Fr
