/- What the scan finds: records laid one behind the other; one sector turned or emptied; another segment's. Plain Lean, no condition beyond the sizes named. -/
import Derived.Test.YtckmeomhcikmoaaFrPlain
namespace Go.Proofs.Ytckmeomhcikmoaa.Fr
open Crc

theorem cnt_pos (r : List UInt8) : 1 ≤ cnt r := by unfold cnt; omega
theorem cnt_le {r : List UInt8} (h : r.length ≤ 7680) : cnt r ≤ 32 := by unfold cnt; omega
theorem take_part (r : List UInt8) (i : Nat) : r.take (240 * i) ++ part r i = r.take (240 * (i + 1)) := by
  unfold part
  rw [show 240 * (i + 1) = 240 * i + 240 from by omega, List.take_add]

section
variable {seg : BitVec 32} {j : Nat} {r : List UInt8} {i d : Nat} {l : List (List UInt8)} {out : List (List UInt8)}
theorem scan_step (hr : r.length ≤ 7680) (hi : i + 1 < cnt r) (hj : j + cnt r ≤ 65536) :
    scan seg (one seg j r (cnt r) i :: l) (j + i) out (r.take (240 * i)) d (decide (0 < i)) = scan seg l (j + i + 1) out (r.take (240 * (i + 1))) d true := by
  rw [scan, one, piece_sect (kindOf_ok _ _) seg (by omega) (part_le r i)]
  dsimp only
  rw [take_part]
  have hl : (part r i).length = 240 := by
    unfold part; rw [List.length_take, List.length_drop]; unfold cnt at hi; omega
  have hc : cnt r ≠ 1 := by omega
  rw [if_neg (by rw [List.length_take]; omega), if_neg, if_pos]
  · refine ⟨?_, hl⟩
    unfold kindOf
    rw [if_neg hc]
    by_cases h0 : i = 0
    · left; rw [if_pos h0]; exact ⟨rfl, by simp [h0]⟩
    · right; rw [if_neg h0, if_neg (by omega)]; exact ⟨rfl, by simp; omega⟩
  · unfold kindOf
    rw [if_neg hc]
    by_cases h0 : i = 0
    · rw [if_pos h0]; rintro (⟨h, _⟩ | ⟨h, _⟩) <;> exact absurd h (by decide)
    · rw [if_neg h0, if_neg (by omega)]; rintro (⟨h, _⟩ | ⟨h, _⟩) <;> exact absurd h (by decide)
theorem scan_last (hr : r.length ≤ 7680) (hi : i + 1 = cnt r) (hj : j + cnt r ≤ 65536) :
    scan seg (one seg j r (cnt r) i :: l) (j + i) out (r.take (240 * i)) d (decide (0 < i)) = scan seg l (j + cnt r) (out ++ [r]) [] (j + cnt r) false := by
  rw [scan, one, piece_sect (kindOf_ok _ _) seg (by omega) (part_le r i)]
  dsimp only
  rw [take_part]
  have hall : r.take (240 * (i + 1)) = r := List.take_of_length_le (by rw [hi]; unfold cnt; omega)
  rw [hall, if_neg (by omega), if_pos, Nat.add_assoc, hi]
  unfold kindOf
  by_cases hc : cnt r = 1
  · left; rw [if_pos hc]; exact ⟨rfl, by simp; omega⟩
  · right
    rw [if_neg hc, if_neg (by omega), if_pos (by omega)]
    refine ⟨rfl, by simp; omega, ?_⟩
    unfold part; rw [List.length_take, List.length_drop]; unfold cnt at hi hc; omega
theorem scan_bad {b : List UInt8} (hb : (piece seg j b).1 = 0) (out : List (List UInt8)) (r : List UInt8) (d : Nat) (g : Bool) : scan seg (b :: l) j out r d g = (out, d) := by
  rw [scan, piece_none hb]
  dsimp only
  split
  · rfl
  rw [if_neg, if_neg]
  · rintro ⟨⟨h, _⟩ | ⟨h, _⟩, _⟩ <;> exact absurd h (by decide)
  · rintro (⟨h, _⟩ | ⟨h, _⟩) <;> exact absurd h (by decide)
/-- The first k of a record's sectors, not all of them. -/
theorem scan_upto (hr : r.length ≤ 7680) (hj : j + cnt r ≤ 65536) (d : Nat) : ∀ k, k < cnt r → ∀ l, scan seg ((List.range k).map (one seg j r (cnt r)) ++ l) j out [] d false = scan seg l (j + k) out (r.take (240 * k)) d (decide (0 < k)) := by
  intro k
  induction k with
  | zero => intro _ l; simp
  | succ k ih =>
    intro hk l
    rw [List.range_succ, List.map_append, List.append_assoc, ih (by omega)]
    have := scan_step (seg := seg) (d := d) (l := l) (out := out) hr hk hj
    rw [List.map_cons, List.map_nil, List.cons_append, List.nil_append, this]
    simp [Nat.add_assoc]
/-- A record's sectors. -/
theorem scan_split (hr : r.length ≤ 7680) (hj : j + cnt r ≤ 65536) (d : Nat) (l : List (List UInt8)) : scan seg (splitL seg j r ++ l) j out [] d false = scan seg l (j + cnt r) (out ++ [r]) [] (j + cnt r) false := by
  have hp := cnt_pos r
  unfold splitL
  have e : List.range (cnt r) = List.range (cnt r - 1) ++ [cnt r - 1] := by rw [← List.range_succ, show (cnt r - 1).succ = cnt r from by omega]
  conv => lhs; rw [e]
  rw [List.map_append, List.append_assoc, scan_upto hr hj d _ (by omega), List.map_cons, List.map_nil, List.cons_append, List.nil_append]
  exact scan_last hr (by omega) hj
theorem splitL_get (h : i < cnt r) : (splitL seg j r)[i]? = some (one seg j r (cnt r) i) := by
  unfold splitL; rw [List.getElem?_map, List.getElem?_range h]; rfl
theorem splitL_set {x : List UInt8} (h : i < cnt r) : ∃ l', (splitL seg j r).set i x = (List.range i).map (one seg j r (cnt r)) ++ x :: l' := by
  refine ⟨(splitL seg j r).drop (i + 1), ?_⟩
  rw [List.set_eq_take_append_cons_drop, if_pos (by rw [splitL_len]; exact h)]
  congr 1
  unfold splitL
  rw [← List.map_take, List.take_range, Nat.min_eq_left (by omega)]
/-- One of a record's sectors is none. -/
theorem scan_hurt {x : List UInt8} (hr : r.length ≤ 7680) (hj : j + cnt r ≤ 65536) (d : Nat) (hi : i < cnt r) (hx : (piece seg (j + i) x).1 = 0) (l : List (List UInt8)) :
    scan seg ((splitL seg j r).set i x ++ l) j out [] d false = (out, d) := by
  obtain ⟨l', e⟩ := splitL_set (seg := seg) (j := j) (x := x) hi
  rw [e, List.append_assoc, scan_upto hr hj d i hi, List.cons_append, scan_bad hx]
end

/-- Records laid one behind the other. -/
def lay (seg : BitVec 32) : Nat → List (List UInt8) → List (List UInt8)
  | _, [] => []
  | j, r :: rs => splitL seg j r ++ lay seg (j + cnt r) rs
def begs : Nat → List (List UInt8) → List Nat
  | _, [] => []
  | j, r :: rs => j :: begs (j + cnt r) rs
def tot : List (List UInt8) → Nat
  | [] => 0
  | r :: rs => cnt r + tot rs
theorem lay_len (seg : BitVec 32) (j : Nat) (rs : List (List UInt8)) : (lay seg j rs).length = tot rs := by
  induction rs generalizing j with
  | nil => rfl
  | cons r rs ih => rw [lay, List.length_append, splitL_len, ih, tot]
theorem begs_len (j : Nat) (rs : List (List UInt8)) : (begs j rs).length = rs.length := by
  induction rs generalizing j with
  | nil => rfl
  | cons r rs ih => rw [begs, List.length_cons, ih, List.length_cons]
theorem tot_snoc (rs : List (List UInt8)) (r : List UInt8) : tot (rs ++ [r]) = tot rs + cnt r := by
  induction rs with
  | nil => simp [tot]
  | cons a rs ih => rw [List.cons_append, tot, tot, ih]; omega
theorem lay_snoc (seg : BitVec 32) (j : Nat) (rs : List (List UInt8)) (r : List UInt8) : lay seg j (rs ++ [r]) = lay seg j rs ++ splitL seg (j + tot rs) r := by
  induction rs generalizing j with
  | nil => simp [lay, tot]
  | cons a rs ih => rw [List.cons_append, lay, lay, ih, tot, List.append_assoc, Nat.add_assoc]
theorem begs_snoc (j : Nat) (rs : List (List UInt8)) (r : List UInt8) : begs j (rs ++ [r]) = begs j rs ++ [j + tot rs] := by
  induction rs generalizing j with
  | nil => simp [begs, tot]
  | cons a rs ih => rw [List.cons_append, begs, begs, ih, tot, List.cons_append, Nat.add_assoc]
theorem scan_lay {seg : BitVec 32} (rs : List (List UInt8)) (hr : ∀ r ∈ rs, r.length ≤ 7680) (j : Nat) (hj : j + tot rs ≤ 65536) (out : List (List UInt8)) :
    scan seg (lay seg j rs) j out [] j false = (out ++ rs, j + tot rs) := by
  induction rs generalizing j out with
  | nil => simp [lay, scan, tot]
  | cons r rs ih =>
    rw [tot] at hj
    rw [lay, scan_split (hr r (by simp)) (by omega), ih (fun r' h => hr r' (by simp [h])) _ (by omega), tot, List.append_assoc, List.singleton_append, Nat.add_assoc]
/-- Records of which the k-th sector is none: m records stand ahead of it. -/
theorem scan_lay_hurt {seg : BitVec 32} {z : List UInt8} (hz : ∀ j, (piece seg j z).1 = 0) (rs : List (List UInt8)) (hr : ∀ r ∈ rs, r.length ≤ 7680) (j : Nat) (hj : j + tot rs ≤ 65536) (out : List (List UInt8)) (k m s : Nat)
    (hm : (begs j rs)[m]? = some s) (hs : s ≤ j + k) (hn : ∀ t, (begs j rs)[m + 1]? = some t → j + k < t) (hk : k < tot rs) :
    scan seg ((lay seg j rs).set k z) j out [] j false = (out ++ rs.take m, s) := by
  induction rs generalizing j out k m with
  | nil => simp [begs] at hm
  | cons r rs ih =>
    rw [tot] at hj hk
    rw [lay]
    by_cases h : k < cnt r
    · rw [List.set_append_left _ _ (by rw [splitL_len]; exact h), scan_hurt (hr r (by simp)) (by omega) j h (hz _)]
      cases m with
      | zero => simp [begs] at hm; subst hm; simp
      | succ m =>
        rw [begs, List.getElem?_cons_succ] at hm
        exfalso
        have : ∀ (rs : List (List UInt8)) (j m s : Nat), (begs j rs)[m]? = some s → j ≤ s := by
          intro rs
          induction rs with
          | nil => intro j m s h; simp [begs] at h
          | cons r rs ih =>
            intro j m s h
            cases m with
            | zero => simp [begs] at h; omega
            | succ m => rw [begs, List.getElem?_cons_succ] at h; have := ih _ _ _ h; omega
        have := this _ _ _ _ hm
        omega
    · rw [List.set_append_right _ _ (by rw [splitL_len]; omega), splitL_len, scan_split (hr r (by simp)) (by omega)]
      cases m with
      | zero =>
        exfalso
        cases rs with
        | nil => rw [tot] at hk; omega
        | cons r' rs =>
          have := hn (j + cnt r) (by simp [begs])
          omega
      | succ m =>
        rw [begs, List.getElem?_cons_succ] at hm
        rw [ih (fun r' h => hr r' (by simp [h])) _ (by omega) _ (k - cnt r) m hm (by omega) (fun t ht => by have := hn t (by rw [begs, List.getElem?_cons_succ]; exact ht); omega) (by omega)]
        rw [List.take_succ_cons, List.append_assoc, List.singleton_append]

/-- A sector of noughts is none. -/
theorem piece_zeros (seg : BitVec 32) (j : Nat) : (piece seg j (List.replicate 256 0)).1 = 0 := by
  apply Decidable.byContradiction
  intro h
  have h2 := (piece_some h).1
  have := congrArg (fun l : List UInt8 => l.getD 0 7) h2
  revert this
  generalize (piece seg j (List.replicate 256 0)).1 = k
  generalize (piece seg j (List.replicate 256 0)).2 = p
  intro this
  exact absurd this (show ¬ ((0 : UInt8) = 66) by decide)

/-- The head of a sector of a segment tells it and its place. -/
theorem piece_other {seg other : BitVec 32} {j k : Nat} {kind : UInt8} {p : List UInt8} (hj : j ≤ 65535) (hk : k ≤ 65535) (hne : ¬ (seg = other ∧ j = k)) : (piece seg j (sect kind other k p)).1 = 0 := by
  apply Decidable.byContradiction
  intro h
  have h2 := (piece_some h).1
  generalize (piece seg j (sect kind other k p)).1 = k' at h2
  generalize (piece seg j (sect kind other k p)).2 = p' at h2
  have hget : ∀ i, i < 12 → (hd kind other k p.length)[i]? = (hd k' seg j p'.length)[i]? := by
    intro i hi
    have := congrArg (fun l : List UInt8 => l[i]?) h2
    simp only [sect, body, List.append_assoc] at this
    rwa [List.getElem?_append_left (by rw [hd_len]; exact hi), List.getElem?_append_left (by rw [hd_len]; exact hi)] at this
  apply hne
  have e : hd kind other k p.length = hd k' seg j p'.length := by
    apply List.ext_getElem?
    intro i
    rcases Nat.lt_or_ge i 12 with hi | hi
    · exact hget i hi
    · rw [List.getElem?_eq_none (by rw [hd_len]; exact hi), List.getElem?_eq_none (by rw [hd_len]; exact hi)]
  simp only [hd, le32, List.cons_append, List.nil_append, List.cons.injEq, and_true] at e
  obtain ⟨-, -, -, -, e0, e1, e2, e3, e4, e5, -, -⟩ := e
  refine ⟨le32_inj (by simp only [le32]; rw [e0, e1, e2, e3]), ?_⟩
  have t4 := congrArg UInt8.toNat e4
  have t5 := congrArg UInt8.toNat e5
  rw [u8_toNat, u8_toNat] at t4 t5
  omega

/-- What a sector's sum is, its own sum within. -/
theorem val_get (l : List Bool) : ∀ i, i < 32 → (val l).getLsbD i = l.getD i false := by
  induction l with
  | nil => intro i _; simp [val]
  | cons e l ih =>
    intro i hi
    rw [val, BitVec.getLsbD_xor, BitVec.getLsbD_shiftLeft]
    cases i with
    | zero => cases e <;> simp [bit]
    | succ i =>
      have hb : (bit e).getLsbD (i + 1) = false := by cases e <;> simp [bit]
      rw [hb]
      have := ih i (by omega)
      simp [this, hi]
theorem val_le32 (x : BitVec 32) : val ((le32 x).flatMap bits8) = x := by
  apply BitVec.eq_of_getLsbD_eq
  intro i hi
  rw [val_get _ i hi]
  have h := bits_get (le32 x) i (by rw [le32_len]; omega)
  rw [List.getD_eq_getElem?_getD, h, Option.getD_some]
  unfold bitAt le32
  have hb : ∀ s t, t < 8 → (UInt8.ofBitVec ((x >>> s).setWidth 8)).toBitVec.getLsbD t = x.getLsbD (s + t) := fun s t ht => byte_get x s t ht
  have hq : i / 8 = 0 ∨ i / 8 = 1 ∨ i / 8 = 2 ∨ i / 8 = 3 := by omega
  rcases hq with h | h | h | h
  · rw [h, show i = i % 8 from by omega]
    simp
    omega
  · rw [h]
    show (UInt8.ofBitVec ((x >>> 8).setWidth 8)).toBitVec.getLsbD (i % 8) = _
    rw [hb 8 _ (by omega), show 8 + i % 8 = i from by omega]
  · rw [h]
    show (UInt8.ofBitVec ((x >>> 16).setWidth 8)).toBitVec.getLsbD (i % 8) = _
    rw [hb 16 _ (by omega), show 16 + i % 8 = i from by omega]
  · rw [h]
    show (UInt8.ofBitVec ((x >>> 24).setWidth 8)).toBitVec.getLsbD (i % 8) = _
    rw [hb 24 _ (by omega), show 24 + i % 8 = i from by omega]
theorem sum_own (l : List UInt8) : Crc.sum (l ++ le32 (Crc.sum l)) = ~~~ stps 32 (BitVec.allOnes 32) := by
  unfold Crc.sum more
  rw [run_append]
  generalize run (~~~0#32) l = s
  rw [run_bits, runB_val _ _ (by rw [bits_len, le32_len]; omega), bits_len, le32_len, val_le32]
  have : s ^^^ ~~~s = BitVec.allOnes 32 := by
    apply BitVec.eq_of_getLsbD_eq
    intro i hi
    rw [BitVec.getLsbD_xor, BitVec.getLsbD_not, BitVec.getLsbD_allOnes]
    cases s.getLsbD i <;> simp [hi]
  rw [this]
theorem sum_sect (k : UInt8) (seg : BitVec 32) (j : Nat) (p : List UInt8) : Crc.sum (sect k seg j p) = ~~~ stps 32 (BitVec.allOnes 32) := sum_own _

theorem flips_not (b : List UInt8) (frm : Nat) (c : BitVec 32) (k : Nat) (h : turned b frm c k = false) : flips b frm c k = b := by
  induction k with
  | zero => rfl
  | succ k ih =>
    rw [turned] at h
    rw [flips]
    split at h
    · cases h
    · rename_i h1
      rw [if_neg h1]
      exact ih h
/-- A sector in which a run of at most 32 bits has changed is none. -/
theorem piece_flips {seg : BitVec 32} {j k : Nat} {kind : UInt8} {p : List UInt8} (frm : Nat) (c : BitVec 32) (h : turned (sect kind seg k p) frm c 32 = true) : (piece seg j (flips (sect kind seg k p) frm c 32)).1 = 0 := by
  apply Decidable.byContradiction
  intro hne
  have h2 := (piece_some hne).1
  have h3 : Crc.sum (flips (sect kind seg k p) frm c 32) = Crc.sum (sect kind seg k p) := by
    rw [h2, sum_sect, sum_sect]
  rw [(bursts _ _ _).1 h3] at h
  cases h
end Go.Proofs.Ytckmeomhcikmoaa.Fr
