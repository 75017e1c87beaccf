/- The document's sums. No condition. -/
import Derived.Test.YtoodbdjmbicaeaaGreatDoorRf2
import Derived.OwnWalk
namespace Go.Proofs.YtoodbdjmbicaeaaGreatDoor
open Go.RowKit
set_option maxRecDepth 8000
set_option maxHeartbeats 1000000
set_option linter.unusedVariables false
set_option linter.unusedSimpArgs false

theorem pl_le {a : Nat} (hf : rung a < infR) : pl (rung a) ≤ 2045 := by
  have := infR_eq
  unfold pl
  have : rung a / 2 ^ 52 < 2047 := (Nat.div_lt_iff_lt_mul (by decide)).2 (by omega)
  omega
theorem small_dig {m k : Nat} (hm : m < 2 ^ 53) (hk : k ≤ 2100) : (dig (m * 2 ^ k)).length ≤ 70 := by
  refine dig_len ?_
  have h1 : m * 2 ^ k < 2 ^ 53 * 2 ^ k := Nat.mul_lt_mul_of_pos_right hm (Nat.two_pow_pos _)
  rw [← Nat.pow_add] at h1
  exact Nat.lt_trans h1 (two_lt_bp (by omega))
theorem mg_dig (a : Nat) : (dig (mg (rung a))).length ≤ 2 := dig_len (k := 2) (Nat.lt_of_lt_of_le (mg_lt _) (by decide))

theorem krline {a b : Nat} (ha : a < 2 ^ 64) (hb : b < 2 ^ 64) (fa : rung a < infR) (fb : rung b < infR) (w : World) :
    Calls Tryz.prog 70 #[wd a, wd b] w fun e w' => ∃ u u', e = .returned (.tuple #[u, u', .int .i64 (-1074 + ((min (pl (rung a)) (pl (rung b)) : Nat) : Int))]) ∧
      Bg w.heap.size w' u (sig a (min (pl (rung a)) (pl (rung b)))) ∧ Bg w.heap.size w' u' (sig b (min (pl (rung a)) (pl (rung b)))) ∧ Below w.heap.size w w' := by
  obtain ⟨base, hbase⟩ : ∃ base, w.heap.size = base := ⟨_, rfl⟩
  obtain ⟨p, hp⟩ : ∃ p, pl (rung a) = p := ⟨_, rfl⟩
  obtain ⟨q, hq⟩ : ∃ q, pl (rung b) = q := ⟨_, rfl⟩
  have hpl := pl_le fa
  have hql := pl_le fb
  obtain ⟨k, hk⟩ : ∃ k, min p q = k := ⟨_, rfl⟩
  have oa := kropen ha w
  have ob := kropen hb w
  unfold sig
  rw [hp, hq] at *
  rw [hk, hbase]
  obtain ⟨m, hm⟩ : ∃ m, mg (rung a) = m := ⟨_, rfl⟩
  obtain ⟨n, hn⟩ : ∃ n, mg (rung b) = n := ⟨_, rfl⟩
  have sm := mg_dig a
  have sn := mg_dig b
  have ml := mg_lt (rung a)
  have nl := mg_lt (rung b)
  rw [hm] at sm ml oa
  rw [hn] at sn nl ob
  rw [hm, hn]
  obtain ⟨i, hi⟩ : ∃ i : Int, -1074 + (p : Int) = i := ⟨_, rfl⟩
  obtain ⟨j, hj⟩ : ∃ j : Int, -1074 + (q : Int) = j := ⟨_, rfl⟩
  obtain ⟨l, hl⟩ : ∃ l : Int, -1074 + (k : Int) = l := ⟨_, rfl⟩
  rw [hi] at oa
  rw [hj] at ob
  rw [hl]
  have i1 : (if j < i then j else i) = l := by split <;> omega
  have i2 : (if i < j then i else j) = l := by split <;> omega
  obtain ⟨da, hda⟩ : ∃ da, p - k = da := ⟨_, rfl⟩
  obtain ⟨db, hdb⟩ : ∃ db, q - k = db := ⟨_, rfl⟩
  have e1 : i - l = (da : Int) := by omega
  have e2 : j - l = (db : Int) := by omega
  have d1 : da ≤ 10000 := by omega
  have d2 : db ≤ 10000 := by omega
  rw [hda, hdb]
  have OA := Lib.hid oa
  have OB := Lib.hid ob
  have ml2 : m < 2 ^ 64 := by omega
  have nl2 : n < 2 ^ 64 := by omega
  have hib : -1074 ≤ i ∧ i ≤ 1000 ∧ -1074 ≤ j ∧ j ≤ 1000 ∧ -1074 ≤ l ∧ l ≤ 1000 := by omega
  have SM := Lib.hid (show (dig m).length ≤ 1000 by omega)
  have SN := Lib.hid (show (dig n).length ≤ 1000 by omega)
  clear hp hq hpl hql hk oa ob hm hn sm sn ml nl hi hj hl hda hdb
  go_enter Tryz.func70, Tryz.ntmps70
  go_wp2_with (first
    | (go_at_call 79; have tk4 := tk3; refine (kup K5.out db d2 SN.out).mono ?_; rintro e w6 ⟨p6, rfl, k6, b6⟩; have K6 := Lib.hid (k6.low (lo' := base) (by have := B5.out.size; omega)); have K4b := Lib.hid (K4.out.keep b6); have B6 := Lib.hid (B5.out.trans (b6.mono (by have := B5.out.size; omega))); clear k6 b6)
    | (go_at_call 69; have tk3 := tk2; refine (kfrom nl2 _).mono ?_; rintro e w5 ⟨p5, rfl, k5, b5⟩; have K5 := Lib.hid k5; have K4 := Lib.hid (K3.out.keep b5); have B5 := Lib.hid (B4.out.trans (b5.mono (by have := B4.out.size; omega))); clear k5 b5)
    | (go_at_call 79; have tk2 := tk1; refine (kup K2.out da d1 SM.out).mono ?_; rintro e w4 ⟨p4, rfl, k4, b4⟩; have K3 := Lib.hid (k4.low (lo' := base) (by have := B3.out.size; omega)); have B4 := Lib.hid (B3.out.trans (b4.mono (by have := B3.out.size; omega))); clear k4 b4)
    | (go_at_call 69; have tk1 := True.intro; refine (kfrom ml2 _).mono ?_; rintro e w3 ⟨p3, rfl, k3, b3⟩; rw [hbase] at k3 b3; have K2 := Lib.hid k3; have B3 := Lib.hid b3; clear k3 b3)
    | (go_at_call 76; have tko2 := tko; refine (OB.out).mono ?_; rintro e wz ⟨rfl, hw1⟩; have hw2 := hw1.symm; clear hw1; subst hw2)
    | (go_at_call 76; have tko := True.intro; refine (OA.out).mono ?_; rintro e wz ⟨rfl, hw1⟩; have hw2 := hw1.symm; clear hw1; subst hw2))
  go_ret3
  exact ⟨_, _, rfl, K4b.out, K6.out, B6.out⟩
end Go.Proofs.YtoodbdjmbicaeaaGreatDoor
