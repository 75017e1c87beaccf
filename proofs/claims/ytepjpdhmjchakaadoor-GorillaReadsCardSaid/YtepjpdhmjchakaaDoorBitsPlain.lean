/- Bits, packed and read, in plain Lean. No condition, no program. -/
namespace Go.Proofs.YtepjpdhmjchakaaDoor.Bt

/-- The bit j of some bytes, the highest of a byte first. -/
def mbit (l : List UInt8) (j : Nat) : Bool := (l.getD (j / 8) 0).toBitVec.getLsbD (7 - j % 8)
def unpack (l : List UInt8) : List Bool := (List.range (8 * l.length)).map (mbit l)

/-- The byte with one bit, from the top. -/
def top (r : Nat) : UInt8 := UInt8.ofNat (2 ^ (7 - r))
theorem top_get : ∀ r t : Fin 8, (top r.val).toBitVec.getLsbD (7 - t.val) = decide (t = r) := by decide +kernel

/-- A writer's bytes and bits: one more bit. -/
def put (s : List UInt8 × Nat) (b : Bool) : List UInt8 × Nat :=
  let l := if s.2 % 8 = 0 then s.1 ++ [0] else s.1
  (if b = true then l.set (s.2 / 8) (l.getD (s.2 / 8) 0 ||| top (s.2 % 8)) else l, s.2 + 1)
def packS (L : List Bool) : List UInt8 × Nat := L.foldl put ([], 0)
def pack (L : List Bool) : List UInt8 := (packS L).1

theorem packS_snd (L : List Bool) : (packS L).2 = L.length := by
  have h : ∀ (L : List Bool) (s : List UInt8 × Nat), (L.foldl put s).2 = s.2 + L.length := by
    intro L
    induction L with
    | nil => intro s; rfl
    | cons b L ih => intro s; rw [List.foldl_cons, ih]; simp [put]; omega
  rw [packS, h]; simp
theorem packS_snoc (L : List Bool) (b : Bool) : packS (L ++ [b]) = put (packS L) b := by simp [packS]
theorem pack_nil : pack [] = [] := rfl
theorem pack_snoc (L : List Bool) (b : Bool) : pack (L ++ [b]) =
    (let l := if L.length % 8 = 0 then pack L ++ [0] else pack L
     if b = true then l.set (L.length / 8) (l.getD (L.length / 8) 0 ||| top (L.length % 8)) else l) := by
  unfold pack; rw [packS_snoc, put, packS_snd]
theorem pack_len (L : List Bool) : (pack L).length = (L.length + 7) / 8 := by
  have h : ∀ n (L : List Bool), L.length = n → (pack L).length = (n + 7) / 8 := by
    intro n
    induction n with
    | zero => intro L hL; rw [List.length_eq_zero_iff] at hL; subst hL; rfl
    | succ n ih =>
      intro L hL
      have hne : L ≠ [] := by intro e; subst e; simp at hL
      obtain ⟨L', b, rfl⟩ : ∃ L' b, L = L' ++ [b] := ⟨L.dropLast, L.getLast hne, (List.dropLast_concat_getLast hne).symm⟩
      have hl : L'.length = n := by simpa using hL
      rw [pack_snoc]
      have ih' := ih L' hl
      have e : ((if L'.length % 8 = 0 then pack L' ++ [0] else pack L')).length = (n + 1 + 7) / 8 := by
        rw [hl]; split
        · rw [List.length_append, ih']; simp; omega
        · rw [ih']; omega
      dsimp only
      split
      · rw [List.length_set]; exact e
      · exact e
  exact h _ L rfl

theorem pack_bit (L : List Bool) (j : Nat) : mbit (pack L) j = L.getD j false := by
  have h : ∀ n (L : List Bool), L.length = n → ∀ j, mbit (pack L) j = L.getD j false := by
    intro n
    induction n with
    | zero => intro L hL j; rw [List.length_eq_zero_iff] at hL; subst hL; simp [pack_nil, mbit]
    | succ n ih =>
      intro L hL j
      have hne : L ≠ [] := by intro e; subst e; simp at hL
      obtain ⟨L', b, rfl⟩ : ∃ L' b, L = L' ++ [b] := ⟨L.dropLast, L.getLast hne, (List.dropLast_concat_getLast hne).symm⟩
      have hl : L'.length = n := by simpa using hL
      have hlen := pack_len L'
      rw [hl] at hlen
      -- the bytes with room
      have hroom : ∀ j, mbit (if L'.length % 8 = 0 then pack L' ++ [0] else pack L') j = L'.getD j false := by
        intro j
        rw [← ih L' hl j]
        split
        · unfold mbit
          by_cases h1 : j / 8 < (pack L').length
          · simp [List.getD, List.getElem?_append_left h1]
          · have e1 : (pack L').getD (j / 8) 0 = 0 := by simp [List.getD, h1]
            have e2 : (pack L' ++ [0]).getD (j / 8) 0 = 0 := by
              simp only [List.getD]
              rw [List.getElem?_append_right (by omega)]
              by_cases h2 : j / 8 - (pack L').length = 0
              · rw [h2]; rfl
              · rw [List.getElem?_eq_none (by simp; omega)]; rfl
            rw [e1, e2]
        · rfl
      have hrl : (if L'.length % 8 = 0 then pack L' ++ [0] else pack L').length = (n + 8) / 8 := by
        rw [hl]; split
        · rw [List.length_append, hlen]; simp; omega
        · rw [hlen]; omega
      rw [pack_snoc]
      dsimp only
      generalize hl0 : (if L'.length % 8 = 0 then pack L' ++ [0] else pack L') = l at *
      have hlast : (L' ++ [b]).getD j false = if j = n then b else L'.getD j false := by
        simp only [List.getD]
        by_cases hj : j < L'.length
        · rw [List.getElem?_append_left hj, if_neg (by omega)]
        · rw [List.getElem?_append_right (by omega)]
          by_cases e : j = n
          · subst e; rw [if_pos rfl, hl, Nat.sub_self]; rfl
          · rw [if_neg e, List.getElem?_eq_none (by simp; omega), List.getElem?_eq_none (by omega)]
      rw [hlast]
      have hn0 : L'.getD n false = false := by simp [List.getD, hl]
      split
      · rename_i hb
        subst hb
        rw [hl]
        unfold mbit
        by_cases hd : j / 8 = n / 8
        · have hlt : n / 8 < l.length := by omega
          have e : (l.set (n / 8) (l.getD (n / 8) 0 ||| top (n % 8))).getD (j / 8) 0 = l.getD (n / 8) 0 ||| top (n % 8) := by
            rw [hd]; simp [List.getD, hlt]
          rw [e, UInt8.toBitVec_or, BitVec.getLsbD_or]
          have ht := top_get ⟨n % 8, Nat.mod_lt _ (by omega)⟩ ⟨j % 8, Nat.mod_lt _ (by omega)⟩
          simp only [Fin.mk.injEq] at ht
          rw [ht]
          have hr := hroom j
          unfold mbit at hr
          rw [hd] at hr
          rw [hr]
          by_cases e2 : j % 8 = n % 8
          · have : j = n := by omega
            subst this; simp
          · have : j ≠ n := by intro e3; subst e3; exact e2 rfl
            simp [e2, this]
        · have hne : j ≠ n := by intro e3; subst e3; exact hd rfl
          have e : (l.set (n / 8) (l.getD (n / 8) 0 ||| top (n % 8))).getD (j / 8) 0 = l.getD (j / 8) 0 := by
            simp [List.getD, Ne.symm hd]
          rw [e, if_neg hne]
          exact hroom j
      · rename_i hb
        have hbf : b = false := by simpa using hb
        subst hbf
        rw [hroom]
        by_cases e : j = n
        · subst e; rw [if_pos rfl, hn0]
        · rw [if_neg e]
  exact h _ L rfl j

/-- Bytes are their bits. -/
theorem ext_bits (a b : List UInt8) (h : a.length = b.length) (hb : ∀ j, j < 8 * a.length → mbit a j = mbit b j) : a = b := by
  apply List.ext_getElem h
  intro i h1 h2
  apply UInt8.toBitVec_inj.1
  apply BitVec.eq_of_getLsbD_eq
  intro t ht
  have := hb (8 * i + (7 - t)) (by omega)
  unfold mbit at this
  have e1 : (8 * i + (7 - t)) / 8 = i := by omega
  have e2 : 7 - (8 * i + (7 - t)) % 8 = t := by omega
  rw [e1, e2] at this
  simpa [List.getD, h1, h2] using this

theorem unpack_len (l : List UInt8) : (unpack l).length = 8 * l.length := by simp [unpack]
theorem unpack_get (l : List UInt8) (j : Nat) (h : j < 8 * l.length) : (unpack l)[j]? = some (mbit l j) := by simp [unpack, h]
theorem pack_unpack (l : List UInt8) : pack (unpack l) = l := by
  apply ext_bits
  · rw [pack_len, unpack_len]; omega
  · intro j hj
    rw [pack_len, unpack_len] at hj
    rw [pack_bit, List.getD, unpack_get l j (by omega)]; rfl
/-- What is read of bytes that were packed: the bits, and noughts behind. -/
theorem unpack_pack (L : List Bool) : unpack (pack L) = L ++ List.replicate (8 * ((L.length + 7) / 8) - L.length) false := by
  apply List.ext_getElem?
  intro j
  by_cases hj : j < 8 * ((L.length + 7) / 8)
  · rw [unpack_get _ _ (by rw [pack_len]; exact hj), pack_bit]
    by_cases h1 : j < L.length
    · rw [List.getElem?_append_left h1]; simp [List.getD, h1]
    · rw [List.getElem?_append_right (by omega), List.getElem?_replicate, if_pos (by omega)]; simp [List.getD, h1]
  · rw [List.getElem?_eq_none (by rw [unpack_len, pack_len]; omega), List.getElem?_eq_none (by simp; omega)]

/-- The n lowest bits of v, the highest first. -/
def nb (v n : Nat) : List Bool := (List.range n).map fun i => v.testBit (n - 1 - i)
theorem nb_len (v n : Nat) : (nb v n).length = n := by simp [nb]
theorem nb_succ (v n : Nat) : nb v (n + 1) = v.testBit n :: nb v n := by
  unfold nb
  rw [List.range_succ_eq_map, List.map_cons, List.map_map]
  congr 1
  apply List.map_congr_left
  intro i hi
  have : i < n := List.mem_range.1 hi
  show v.testBit (n + 1 - 1 - (i + 1)) = _
  congr 1
  omega
theorem nb_mod (v n : Nat) : nb (v % 2 ^ n) n = nb v n := by
  unfold nb
  apply List.map_congr_left
  intro i hi
  have : i < n := List.mem_range.1 hi
  rw [Nat.testBit_mod_two_pow]
  simp; intro; omega

/-- The number of some bits. -/
def val (l : List Bool) : Nat := l.foldl (fun v b => 2 * v + b.toNat) 0
theorem val_snoc (l : List Bool) (b : Bool) : val (l ++ [b]) = 2 * val l + b.toNat := by simp [val]
theorem val_from (l : List Bool) (a : Nat) : l.foldl (fun v b => 2 * v + b.toNat) a = a * 2 ^ l.length + val l := by
  induction l generalizing a with
  | nil => simp [val]
  | cons b l ih =>
    unfold val
    rw [List.foldl_cons, List.foldl_cons, ih, ih (2 * 0 + b.toNat), List.length_cons, Nat.pow_succ]
    have : (2 * a + b.toNat) * 2 ^ l.length = a * (2 ^ l.length * 2) + b.toNat * 2 ^ l.length := by
      rw [Nat.add_mul, Nat.mul_comm 2 a, Nat.mul_assoc, Nat.mul_comm 2]
    simp only [this]; simp; omega
theorem val_cons (b : Bool) (l : List Bool) : val (b :: l) = b.toNat * 2 ^ l.length + val l := by
  have h := val_from l (2 * 0 + b.toNat)
  unfold val at *
  rw [List.foldl_cons, h]; simp
theorem val_lt (l : List Bool) : val l < 2 ^ l.length := by
  induction l with
  | nil => simp [val]
  | cons b l ih => rw [val_cons, List.length_cons, Nat.pow_succ]; cases b <;> simp <;> omega
theorem val_nb (v n : Nat) : val (nb v n) = v % 2 ^ n := by
  induction n with
  | zero => simp [nb, val, Nat.mod_one]
  | succ n ih =>
    rw [nb_succ, val_cons, nb_len, ih, Nat.mod_pow_succ, Nat.testBit_eq_decide_div_mod_eq]
    have h : v / 2 ^ n % 2 < 2 := Nat.mod_lt _ (by omega)
    by_cases e : v / 2 ^ n % 2 = 1
    · simp [e]; omega
    · have : v / 2 ^ n % 2 = 0 := by omega
      simp [this]
theorem nb_val (l : List Bool) : nb (val l) l.length = l := by
  induction l with
  | nil => rfl
  | cons b l ih =>
    have h := val_lt l
    rw [List.length_cons, nb_succ]
    have e1 : (val (b :: l)).testBit l.length = b := by
      rw [Nat.testBit_eq_decide_div_mod_eq, val_cons]
      cases b
      · simp [Nat.div_eq_of_lt h]
      · simp only [Bool.toNat_true, Nat.one_mul]
        rw [Nat.add_div_left _ (Nat.two_pow_pos _), Nat.div_eq_of_lt h]; simp
    have e2 : nb (val (b :: l)) l.length = nb (val l) l.length := by
      rw [← nb_mod, val_cons]
      congr 1
      rw [Nat.mul_add_mod_self_right, Nat.mod_eq_of_lt h]
    rw [e1, e2, ih]

/-- A number in groups of seven. -/
def vbf : Nat → Nat → List Bool
  | 0, v => nb v 8
  | k + 1, v => if 127 < v then nb (v % 128 + 128) 8 ++ vbf k (v / 128) else nb v 8
def vb (v : Nat) : List Bool := vbf 10 v

theorem vbf_fuel (k : Nat) (v : Nat) (h : v < 128 ^ (k + 1)) (m : Nat) : vbf (k + m) v = vbf k v := by
  induction k generalizing v with
  | zero =>
    have : v < 128 := by simpa using h
    cases m with
    | zero => rfl
    | succ m =>
      rw [Nat.zero_add, show vbf (m + 1) v = if 127 < v then nb (v % 128 + 128) 8 ++ vbf m (v / 128) else nb v 8 from rfl, if_neg (by omega)]; rfl
  | succ k ih =>
    rw [Nat.succ_add, vbf, vbf]
    split
    · rw [ih (v / 128) (by rw [Nat.pow_succ] at h; exact Nat.div_lt_of_lt_mul (by rw [Nat.mul_comm]; exact h))]
    · rfl
end Go.Proofs.YtepjpdhmjchakaaDoor.Bt
