/- barographref11.one, Scan: what they return. -/
import Derived.Test.YtckmeomhcikmoaaFrRefB
import Derived.Test.YtckmeomhcikmoaaFrKnown
namespace Go.Proofs.Ytckmeomhcikmoaa
open Go.RowKit
set_option maxRecDepth 100000
set_option maxHeartbeats 2000000

/-- A step of the reckoning of one record, told for the walk. -/
inductive Fr.Way1 (S stop ret1 cont ret2 : List UInt8 × Nat) (kz : Int) (i pl n1 : Nat) : Prop
  | a (hn : (7680 : Int) < (n1 : Int)) (hS : S = stop)
  | b (hi : i = 0) (hk : kz = 1) (hn : ¬ (7680 : Int) < (n1 : Int)) (hS : S = ret1)
  | c (hi : i = 0) (hk : kz = 2) (hp : ((pl : Int) == 240) = true) (hn : ¬ (7680 : Int) < (n1 : Int)) (hS : S = cont)
  | d (hi : i = 0) (hk : kz = 2) (hp : ((pl : Int) == 240) = false) (hn : ¬ (7680 : Int) < (n1 : Int)) (hS : S = stop)
  | e (hi : i = 0) (hk1 : (kz == 1) = false) (hk2 : (kz == 2) = false) (hn : ¬ (7680 : Int) < (n1 : Int)) (hS : S = stop)
  | f (hi0 : ((i : Int) == 0) = false) (hi : (0 : Int) < (i : Int)) (hk : kz = 3) (hp : ((pl : Int) == 240) = true) (hn : ¬ (7680 : Int) < (n1 : Int)) (hS : S = cont)
  | g (hi0 : ((i : Int) == 0) = false) (hi : (0 : Int) < (i : Int)) (hk : kz = 3) (hp : ((pl : Int) == 240) = false) (hn : ¬ (7680 : Int) < (n1 : Int)) (hS : S = stop)
  | h (hi0 : ((i : Int) == 0) = false) (hi : (0 : Int) < (i : Int)) (hk : kz = 4) (hp : (0 : Int) < (pl : Int)) (hn : ¬ (7680 : Int) < (n1 : Int)) (hS : S = ret2)
  | k (hi0 : ((i : Int) == 0) = false) (hi : (0 : Int) < (i : Int)) (hk : kz = 4) (hp : ¬ (0 : Int) < (pl : Int)) (hn : ¬ (7680 : Int) < (n1 : Int)) (hS : S = stop)
  | l (hi0 : ((i : Int) == 0) = false) (hi : (0 : Int) < (i : Int)) (hk1 : (kz == 3) = false) (hk2 : (kz == 4) = false) (hn : ¬ (7680 : Int) < (n1 : Int)) (hS : S = stop)

theorem Fr.rec1_ways (seg : BitVec 32) (b : List UInt8) (l : List (List UInt8)) (j i : Nat) (r : List UInt8) (k : UInt8) (p : List UInt8) (hk : k = (Fr.piece seg j b).1) (hp : p = (Fr.piece seg j b).2) (kz : Int) (hkz : kz = (k.toNat : Int)) (n1 : Nat) (hn1 : n1 = r.length + p.length) :
    Fr.Way1 (Fr.rec1 seg (b :: l) j i r) ([], 0) (r ++ p, 1) (Fr.rec1 seg l (j + 1) (i + 1) (r ++ p)) (r ++ p, i + 1) kz i p.length n1 := by
  obtain ⟨S, hS⟩ : ∃ S, S = Fr.rec1 seg (b :: l) j i r := ⟨_, rfl⟩
  obtain ⟨B, hB⟩ : ∃ B, B = Fr.rec1 seg l (j + 1) (i + 1) (r ++ p) := ⟨_, rfl⟩
  have hS' := hS
  rw [Fr.rec1] at hS
  try dsimp only at hS
  rw [← hk, ← hp, List.length_append, ← hn1, ← hB] at hS
  rw [← hS', ← hB]
  clear hS' hB hk hp hn1
  have one : ∀ n : Nat, k.toNat = n → n < 256 → k = UInt8.ofNat n := fun n h hn => UInt8.toNat_inj.1 (by rw [h, UInt8.toNat_ofNat']; omega)
  have ne : ∀ n : Nat, k.toNat ≠ n → n < 256 → ¬ k = UInt8.ofNat n := fun n h hn e => h (by rw [e, UInt8.toNat_ofNat']; omega)
  have m1 : (1 : UInt8) = UInt8.ofNat 1 := rfl
  have m2 : (2 : UInt8) = UInt8.ofNat 2 := rfl
  have m3 : (3 : UInt8) = UInt8.ofNat 3 := rfl
  have m4 : (4 : UInt8) = UInt8.ofNat 4 := rfl
  rw [m1, m2, m3, m4] at hS
  have e1 : k = UInt8.ofNat 1 ↔ k.toNat = 1 := ⟨fun h => by rw [h]; rfl, fun h => one 1 h (by decide)⟩
  have e2 : k = UInt8.ofNat 2 ↔ k.toNat = 2 := ⟨fun h => by rw [h]; rfl, fun h => one 2 h (by decide)⟩
  have e3 : k = UInt8.ofNat 3 ↔ k.toNat = 3 := ⟨fun h => by rw [h]; rfl, fun h => one 3 h (by decide)⟩
  have e4 : k = UInt8.ofNat 4 ↔ k.toNat = 4 := ⟨fun h => by rw [h]; rfl, fun h => one 4 h (by decide)⟩
  simp only [e1, e2, e3, e4] at hS
  have beqf : ∀ n : Int, kz ≠ n → (kz == n) = false := fun n h => by simpa using h
  have pt : p.length = 240 → ((p.length : Int) == 240) = true := fun h => by rw [h]; rfl
  have pf : ¬ p.length = 240 → ((p.length : Int) == 240) = false := fun h => by simp; omega
  by_cases hn : 7680 < n1
  · exact .a (by omega) (by rw [hS, if_pos hn])
  rw [if_neg hn] at hS
  have hn' : ¬ (7680 : Int) < (n1 : Int) := by omega
  by_cases hi : i = 0
  · by_cases k1 : k.toNat = 1
    · exact .b hi (by omega) hn' (by rw [hS, if_pos ⟨hi, k1⟩])
    rw [if_neg (fun h => k1 h.2)] at hS
    by_cases k2 : k.toNat = 2
    · by_cases hp : p.length = 240
      · exact .c hi (by omega) (pt hp) hn' (by rw [hS, if_pos ⟨.inl ⟨hi, k2⟩, hp⟩])
      · exact .d hi (by omega) (pf hp) hn' (by rw [hS, if_neg (fun h => hp h.2), if_neg (fun h => by omega)])
    · exact .e hi (beqf 1 (by omega)) (beqf 2 (by omega)) hn' (by rw [hS, if_neg (fun h => by rcases h.1 with h | h <;> omega), if_neg (fun h => by omega)])
  · have hi0 : ((i : Int) == 0) = false := by simp; omega
    have hi1 : (0 : Int) < (i : Int) := by omega
    rw [if_neg (fun h => hi h.1)] at hS
    by_cases k3 : k.toNat = 3
    · by_cases hp : p.length = 240
      · exact .f hi0 hi1 (by omega) (pt hp) hn' (by rw [hS, if_pos ⟨.inr ⟨by omega, k3⟩, hp⟩])
      · exact .g hi0 hi1 (by omega) (pf hp) hn' (by rw [hS, if_neg (fun h => hp h.2), if_neg (fun h => by omega)])
    rw [if_neg (fun h => by rcases h.1 with h | h <;> omega)] at hS
    by_cases k4 : k.toNat = 4
    · by_cases hp : 0 < p.length
      · exact .h hi0 hi1 (by omega) (by omega) hn' (by rw [hS, if_pos ⟨by omega, k4, hp⟩])
      · exact .k hi0 hi1 (by omega) (by omega) hn' (by rw [hS, if_neg (fun h => hp h.2.2)])
    · exact .l hi0 hi1 (beqf 3 (by omega)) (beqf 4 (by omega)) hn' (by rw [hS, if_neg (fun h => k4 h.2.1)])

theorem ret_pair {u : Value} {k : IntKind} {a b : Int} (h : a = b) : Ending.returned (.tuple #[u, .int k a]) = .returned (.tuple #[u, .int k b]) := by rw [h]

theorem rone_any (lo hi : Nat) (w : World) (seg : BitVec 32) (v0 : Value) (rows0 : List (List UInt8)) (w0 : Rws lo hi w v0 rows0) (hn : rows0.length ≤ 1000000) (hhi : hi ≤ w.heap.size) (j : Nat) (hj : j ≤ rows0.length) (t : List UInt8) (n : Nat) (htn : Fr.rec1 seg (rows0.drop j) j 0 [] = (t, n)) :
    Calls Try.prog 70 #[.int .u32 (W32 seg), v0, .int .i64 j] w fun e w' => ∃ u, e = .returned (.tuple #[u, .int .i64 (n : Int)]) ∧ w'.ownsRow w.heap.size 5 1 u t.length (t.map f8) ∧ Below w.heap.size w w' := by
  obtain ⟨vs0, hvl, ⟨ao, cap, rfl, hv⟩, hrows⟩ := w0
  rw [hvl]
  have HV := Lib.hid hv
  have HL := Lib.hid hvl
  have HR := Lib.hid hrows
  have HTN := Lib.hid htn
  clear hv hvl hrows htn
  obtain ⟨i0, hi0, hz0, hz1, hz2⟩ := info_parts info5
  go_enter Try.func70, Try.ntmps70
  go_wp2
  go_loopw [8, 9] (fun rec i wr => ∃ (q : Nat) (r : List UInt8), j + q ≤ rows0.length ∧ i = .int .i64 q ∧ r.length ≤ 7680 ∧ wr.ownsRow w.heap.size 5 1 rec r.length (r.map f8) ∧ Hid (Fr.rec1 seg (rows0.drop (j + q)) (j + q) q r = (t, n)) ∧ Below w.heap.size w wr) (fun _ i _ => rows0.length - (intOf i).toNat)
  case atStart => exact ⟨0, [], by omega, rfl, by simp, World.ownsRow_nil _ _ _ _, HTN, Below.refl _ _⟩
  case round =>
    obtain ⟨q, r, hq, rfl, hr, hown, hS, hbel⟩ := hrel
    obtain ⟨a5, c5, rfl⟩ := own_slice hown
    by_cases hlt : j + q < rows0.length
    · have hlt' : j + q < vs0.length := by rw [HL.out]; exact hlt
      obtain ⟨b, off, rfl, _, hbw, hcell⟩ := HV.out.cells (by intro e; subst e; simp at hlt')
      obtain ⟨ar, capr, hvr, hsr⟩ := HR.out (j + q) hlt hlt'
      have hc1 : wr.cell? ⟨b, off + (j + q), none⟩ = some (.slice ar rows0[j + q].length capr) := by
        rw [hbel.cell (p := ⟨b, off + (j + q), none⟩) (Nat.lt_of_lt_of_le hbw hhi), hcell (j + q) hlt', hvr]; rfl
      have hb1 := hbel.size
      have HSR := Lib.hid (show Sl lo hi f8 wr (.slice ar rows0[j + q].length capr) rows0[j + q] from ⟨_, _, rfl, hsr.below hbel hhi⟩)
      have HOWN := Lib.hid hown
      have hsc : Hid (Fr.rec1 seg (rows0[j + q] :: rows0.drop (j + q + 1)) (j + q) q r = (t, n)) := Lib.hid (by rw [← List.drop_eq_getElem_cons hlt]; exact hS.out)
      clear hcell hvr hsr hown hS
      obtain ⟨B, hB⟩ : ∃ B, B = rows0[j + q] := ⟨_, rfl⟩
      rw [← hB] at hc1 HSR hsc
      clear hB
      obtain ⟨J, hJ⟩ : ∃ J, J = j + q := ⟨_, rfl⟩
      have hJz : (j : Int) + (q : Int) = (J : Int) := by omega
      have hJb : J < rows0.length := by omega
      rw [← hJ] at hc1 hsc
      have HJ := Lib.hid hJ
      clear hJ hlt hlt' hq
      have j1 : (0 : Int) ≤ (J : Int) ∧ (J : Int) < (rows0.length : Int) := by omega
      go_wp2_with (first
        | (at_builtin; refine wpList_append_sl rfl (.tmp 34) (.tmp 35) 23 rfl w.heap.size 5 i0 (.int .u8 0) 1 Try.underlying23 hi0 hz0 hz1 hz2 rfl _ r.length _ rfl (own_below HOWN.out hb2 (Nat.le_refl _)) ap cp p rfl HP.out (f8_one _) (by unfold maxLen; omega) (by omega) (by omega) ?_; intro v3 w3 hown3 hgr3; rw [← HN1.out] at hown3; obtain ⟨a6, c6, hv3⟩ := own_slice hown3; subst hv3; have hb3 : Below w.heap.size w w3 := (hbel.trans (hb2.mono hb1)).grown hgr3 (by omega) (fun x hx => ((own_below HOWN.out hb2 (Nat.le_refl _)).lt x hx).1); have hs3 := hgr3.size; have HO3 := Lib.hid hown3; clear hown3 hgr3; have hway := Fr.rec1_ways seg B (rows0.drop (J + 1)) J q r kk p HK.out HPE.out kz HKZ.out n1 HN1.out; rw [hsc.out] at hway; clear hsc; rcases hway with ⟨hn, hS⟩ | ⟨rfl, rfl, hn, hS⟩ | ⟨rfl, rfl, hp, hn, hS⟩ | ⟨rfl, rfl, hp, hn, hS⟩ | ⟨rfl, hk1, hk2, hn, hS⟩ | ⟨hi0, hi1, rfl, hp, hn, hS⟩ | ⟨hi0, hi1, rfl, hp, hn, hS⟩ | ⟨hi0, hi1, rfl, hp, hn, hS⟩ | ⟨hi0, hi1, rfl, hp, hn, hS⟩ | ⟨hi0, hi1, hk1, hk2, hn, hS⟩ <;> (have hS' := hS.symm; clear hS; have hS := Lib.hid hS'; clear hS'))
        | (go_at_call 73; refine (rpiece_any lo hi wr seg J (by omega) _ B HSR.out (Nat.le_trans hhi hb1)).mono ?_; rintro e w2 ⟨u, rfl, ⟨ap, cp, rfl, hp⟩, hb2⟩; have hs2 := hb2.size; obtain ⟨kk, hkk⟩ : ∃ kk, kk = (Fr.piece seg J B).1 := ⟨_, rfl⟩; obtain ⟨p, hpe⟩ : ∃ p, p = (Fr.piece seg J B).2 := ⟨_, rfl⟩; have hpl : p.length ≤ 240 := (by rw [hpe]; exact Fr.piece_le _ _ _); rw [← hpe] at hp; rw [← hpe, ← hkk]; obtain ⟨kz, hkz⟩ : ∃ kz : Int, kz = W8 kk := ⟨_, rfl⟩; rw [← hkz]; obtain ⟨n1, hn1⟩ : ∃ n1, n1 = r.length + p.length := ⟨_, rfl⟩; have hn1' : n1 ≤ 8000 := (by omega); have HK := Lib.hid hkk; have HPE := Lib.hid hpe; have HKZ := Lib.hid (show kz = (kk.toNat : Int) from hkz); have HN1 := Lib.hid hn1; have HP := Lib.hid hp; clear hkk hpe hkz hn1 hp))
      · go_ret2
        obtain ⟨h1, h2⟩ := Prod.mk.inj hS.out
        subst h1 h2
        exact ⟨_, rfl, World.ownsRow_nil _ _ _ _, hb3⟩
      · go_ret2
        obtain ⟨h1, h2⟩ := Prod.mk.inj hS.out
        subst h1 h2
        refine ⟨_, rfl, ?_, hb3⟩
        rw [List.length_append, List.map_append, ← HN1.out]
        exact HO3.out
      · go_roundw
        case rel =>
          refine ⟨0 + 1, r ++ p, by have := HJ.out; omega, by go_num, by rw [List.length_append, ← HN1.out]; omega, ?_, ?_, hb3⟩
          · rw [List.length_append, List.map_append, ← HN1.out]
            exact HO3.out
          · rw [← Nat.add_assoc, ← HJ.out]
            exact hS
        case measure => have := HJ.out; simp [intOf]; omega
      · go_ret2
        obtain ⟨h1, h2⟩ := Prod.mk.inj hS.out
        subst h1 h2
        exact ⟨_, rfl, World.ownsRow_nil _ _ _ _, hb3⟩
      · go_ret2
        obtain ⟨h1, h2⟩ := Prod.mk.inj hS.out
        subst h1 h2
        exact ⟨_, rfl, World.ownsRow_nil _ _ _ _, hb3⟩
      · go_roundw
        case rel =>
          refine ⟨q + 1, r ++ p, by have := HJ.out; omega, by go_num, by rw [List.length_append, ← HN1.out]; omega, ?_, ?_, hb3⟩
          · rw [List.length_append, List.map_append, ← HN1.out]
            exact HO3.out
          · rw [← Nat.add_assoc, ← HJ.out]
            exact hS
        case measure => have := HJ.out; simp [intOf]; omega
      · go_ret2
        obtain ⟨h1, h2⟩ := Prod.mk.inj hS.out
        subst h1 h2
        exact ⟨_, rfl, World.ownsRow_nil _ _ _ _, hb3⟩
      · go_ret2
        obtain ⟨h1, h2⟩ := Prod.mk.inj hS.out
        subst h1 h2
        refine ⟨_, ret_pair (by omega), ?_, hb3⟩
        rw [List.length_append, List.map_append, ← HN1.out]
        exact HO3.out
      · go_ret2
        obtain ⟨h1, h2⟩ := Prod.mk.inj hS.out
        subst h1 h2
        exact ⟨_, rfl, World.ownsRow_nil _ _ _ _, hb3⟩
      · go_ret2
        obtain ⟨h1, h2⟩ := Prod.mk.inj hS.out
        subst h1 h2
        exact ⟨_, rfl, World.ownsRow_nil _ _ _ _, hb3⟩
    · have e : j + q = rows0.length := by omega
      have hS' := hS.out
      rw [e, List.drop_length, Fr.rec1] at hS'
      injection hS' with h1 h2
      subst h1 h2
      clear hS HTN e
      have hge : ¬ (j : Int) + (q : Int) < (rows0.length : Int) := by omega
      go_wp2
      go_ret2
      exact ⟨_, rfl, World.ownsRow_nil _ _ _ _, hbel⟩

theorem rscan_any (lo hi : Nat) (w : World) (seg : BitVec 32) (v0 : Value) (rows0 : List (List UInt8)) (w0 : Rws lo hi w v0 rows0) (hn : rows0.length ≤ 1000000) (hhi : hi ≤ w.heap.size) (R : List (List UInt8)) (D : Nat) (hR : Fr.scan seg rows0 0 [] [] 0 false = (R, D)) :
    Calls Try.prog 31 #[.int .u32 (W32 seg), v0] w fun e w' => ∃ u vs, e = .returned (.tuple #[u, .int .i64 (D : Int)]) ∧ ORow w' w.heap.size u vs R ∧ Below w.heap.size w w' := by
  have W0 := Lib.hid w0
  obtain ⟨ao, cap, rfl⟩ : ∃ ao cap, v0 = .slice ao rows0.length cap := by
    obtain ⟨vs0, hvl, ⟨ao, cap, rfl, _⟩, _⟩ := w0
    exact ⟨ao, cap, by rw [hvl]⟩
  have HR := Lib.hid hR
  clear w0 hR
  obtain ⟨i1, hi1, hy1, hy2, hy3⟩ := info_parts info23'
  go_enter Try.func31, Try.ntmps31
  go_wp2
  go_loopw [6, 7] (fun out at_ wr => ∃ (d : Nat) (vs : List Value) (rows : List (List UInt8)), d ≤ rows0.length ∧ at_ = .int .i64 d ∧ rows.length ≤ d ∧ ORow wr w.heap.size out vs rows ∧ Hid (Fr.scan seg (rows0.drop d) d rows [] d false = (R, D)) ∧ Below w.heap.size w wr) (fun _ i _ => rows0.length - (intOf i).toNat)
  case atStart => exact ⟨0, [], [], by omega, rfl, by simp, ORow.nil _ _, HR, Below.refl _ _⟩
  case round =>
    obtain ⟨d, vs, rows, hd, rfl, hrl, hrow, hS, hbel⟩ := hrel
    obtain ⟨a4, c4, rfl⟩ := own_slice hrow.row
    obtain ⟨t, n, htn⟩ : ∃ t n, Fr.rec1 seg (rows0.drop d) d 0 [] = (t, n) := ⟨_, _, rfl⟩
    have hle : n ≤ rows0.length - d := by
      have := Fr.rec1_le seg (rows0.drop d) d 0 []
      rw [htn] at this
      simpa using this
    have hvs : vs.length = rows.length := hrow.len
    have hvs1 : vs.length ≤ 1000000 := by omega
    have HVS := Lib.hid hvs
    have HROW := Lib.hid hrow
    have HTN := Lib.hid htn
    have hb1 := hbel.size
    clear hrow htn hvs
    by_cases h0 : n = 0
    · subst h0
      have hend := Fr.scan_end rows HTN.out
      rw [hS.out] at hend
      injection hend with h1 h2
      subst h1 h2
      clear hS HR
      go_wp2_with (go_at_call 70; refine Calls.mono (rone_any lo hi wr seg _ rows0 (W0.out.below hbel hhi) hn (Nat.le_trans hhi hb1) _ hd t 0 HTN.out) ?_; rintro e w2 ⟨u, rfl, hu, hb2⟩)
      go_ret2
      exact ⟨_, vs, rfl, HROW.out.below hb2 (Nat.le_refl _), hbel.trans (hb2.mono hb1)⟩
    · have hmore := Fr.scan_more rows HTN.out h0
      rw [hS.out, List.drop_drop] at hmore
      have HM := Lib.hid hmore.symm
      have hn0 : ((n : Int) == 0) = false := by simp; omega
      clear hmore hS
      go_wp2_with (first
        | (at_builtin; refine wpList_append_own _ rfl (.tmp 21) (.tmp 23) 30 rfl w.heap.size 23 i1 (.slice none 0 0) 1 24 Try.underlying30 hi1 hy1 hy2 hy3 rfl (by decide) _ vs.length vs rfl ((own_below HROW.out.row hb2 (Nat.le_refl _)).alloc _) ⟨w2.heap.size, 0, none⟩ 1 1 [.slice au t.length cu] rfl rfl (news_alloc w2 [.slice au t.length cu] 23) (by intro u hu; cases hu with | head => rfl | tail _ h => cases h) (by simp only [maxLen]; omega) (by omega) (by simp; omega) ?_; intro v3 w3 hown3 hgr3 _; have HO3 := Lib.hid hown3; have HG3 := Lib.hid hgr3; clear hown3 hgr3)
        | (go_at_call 70; refine Calls.mono (rone_any lo hi wr seg _ rows0 (W0.out.below hbel hhi) hn (Nat.le_trans hhi hb1) d hd t n HTN.out) ?_; rintro e w2 ⟨u, rfl, hu, hb2⟩; obtain ⟨au, cu, hue⟩ := own_slice hu; subst hue; have hs2 := hb2.size; have HU := Lib.hid hu; clear hu))
      go_roundw
      case rel =>
        have hb3 := ((hbel.trans (hb2.mono hb1)).alloc (by omega) (.cells #[.slice au t.length cu] 23)).grown HG3.out (by simp; omega) (fun q hq => (HROW.out.row.lt q hq).1)
        have hrow3 := ORow.push (r := t) HROW.out hb2 HU.out hb1 HO3.out HG3.out
        exact ⟨d + n, vs ++ [.slice au t.length cu], rows ++ [t], by omega, by go_num, by simp; omega, hrow3, HM, hb3⟩
      case measure => simp [intOf]; omega
end Go.Proofs.Ytckmeomhcikmoaa
