/- frame.Scan: what it returns. -/
import Derived.Test.YtckmeomhcikmoaaFrPiece
import Derived.Test.YtckmeomhcikmoaaFrPlain2
import Derived.Test.YtckmeomhcikmoaaFrOwn2
namespace Go.Proofs.Ytckmeomhcikmoaa
open Go.RowKit
set_option maxRecDepth 100000
set_option maxHeartbeats 4000000

theorem info23' : (Try.prog.info? 23).map (fun i => (i.zero, i.size, i.bytes)) = some (some (.slice none 0 0), 1, 24) := by kernel_rfl
theorem pair_eta {α β : Type} (p : α × β) {a : α} {b : β} (h : p = (a, b)) : p.1 = a ∧ p.2 = b := by subst h; exact ⟨rfl, rfl⟩

theorem scan_any (lo hi : Nat) (w : World) (seg : BitVec 32) (v0 : Value) (rows0 : List (List UInt8)) (w0 : Rws lo hi w v0 rows0) (hn : rows0.length ≤ 1000000) (hhi : hi ≤ w.heap.size) :
    Calls Try.prog 28 #[.int .u32 (W32 seg), v0] w fun e w' => ∃ u vs, e = .returned (.tuple #[u, .int .i64 ((Fr.scan seg rows0 0 [] [] 0 false).2 : Int)]) ∧ ORow w' w.heap.size u vs (Fr.scan seg rows0 0 [] [] 0 false).1 ∧ Below w.heap.size w w' := by
  obtain ⟨vs0, hvl, ⟨ao, cap, rfl, hv⟩, hrows⟩ := w0
  rw [hvl]
  have HV := Lib.hid hv
  have HL := Lib.hid hvl
  have HR := Lib.hid hrows
  clear hv hvl hrows
  obtain ⟨i0, hi0, hz0, hz1, hz2⟩ := info_parts info5
  obtain ⟨i1, hi1, hy1, hy2, hy3⟩ := info_parts info23'
  obtain ⟨R, D, hRD⟩ : ∃ R D, Fr.scan seg rows0 0 [] [] 0 false = (R, D) := ⟨_, _, rfl⟩
  rw [hRD]
  have HRD := Lib.hid hRD
  clear hRD
  go_enter Try.func28, Try.ntmps28
  go_wp2
  go_loopw [6, 7, 8, 9, 17] (fun out rec done begun i wr => ∃ (k : Nat) (vs : List Value) (rows : List (List UInt8)) (r : List UInt8) (d : Nat) (g : Bool) (bR : Nat), k ≤ rows0.length ∧ i = .int .i64 k ∧ done = .int .i64 d ∧ begun = .bool g ∧ rows.length ≤ k ∧ r.length ≤ 7680 ∧ d ≤ k ∧
      ORow wr w.heap.size out vs rows ∧ wr.ownsRow bR 5 1 rec r.length (r.map f8) ∧ (∀ x ∈ vs, ∀ b, x.ownBlock = some b → b < bR) ∧ w.heap.size ≤ bR ∧ bR ≤ wr.heap.size ∧ Hid (Fr.scan seg (rows0.drop k) k rows r d g = (R, D)) ∧ Below w.heap.size w wr) (fun _ _ _ _ i _ => rows0.length - (intOf i).toNat)
  case atStart => exact ⟨0, [], [], [], 0, false, w.heap.size, by omega, rfl, rfl, rfl, by simp, by simp, by omega, ORow.nil _ _, World.ownsRow_nil _ _ _ _, by simp, Nat.le_refl _, Nat.le_refl _, HRD, Below.refl _ _⟩
  case round =>
    obtain ⟨k, vs, rows, r, d, g, bR, hk, rfl, rfl, rfl, hrl, hr, hdk, hrow, hown, hlo, hbase, hbR, hS, hbel⟩ := hrel
    obtain ⟨a4, c4, rfl⟩ := own_slice hrow.row
    obtain ⟨a5, c5, rfl⟩ := own_slice hown
    by_cases hlt : k < rows0.length
    · have hlt' : k < vs0.length := by rw [HL.out]; exact hlt
      obtain ⟨b, off, rfl, _, hbw, hcell⟩ := HV.out.cells (by intro e; subst e; simp at hlt')
      obtain ⟨ar, capr, hvr, hsr⟩ := HR.out k hlt hlt'
      have hc1 : wr.cell? ⟨b, off + k, none⟩ = some (.slice ar rows0[k].length capr) := by
        rw [hbel.cell (p := ⟨b, off + k, none⟩) (Nat.lt_of_lt_of_le hbw hhi), hcell k hlt', hvr]; rfl
      have hb1 := hbel.size
      have HSR := Lib.hid (show Sl lo hi f8 wr (.slice ar rows0[k].length capr) rows0[k] from ⟨_, _, rfl, hsr.below hbel hhi⟩)
      have HROW := Lib.hid hrow
      have HOWN := Lib.hid hown
      have HLO := Lib.hid hlo
      have hvs : vs.length = rows.length := hrow.len
      have HVS := Lib.hid hvs
      have hvs1 : vs.length ≤ 1000000 := by omega
      have hsc : Hid (Fr.scan seg (rows0[k] :: rows0.drop (k + 1)) k rows r d g = (R, D)) := Lib.hid (by rw [← List.drop_eq_getElem_cons hlt]; exact hS.out)
      clear hcell hvr hsr hrow hown hlo hvs hS
      obtain ⟨B, hB⟩ : ∃ B, B = rows0[k] := ⟨_, rfl⟩
      rw [← hB] at hc1 HSR hsc
      have HB := Lib.hid hB
      clear hB
      have hk2 : (k : Int) < (rows0.length : Int) := by omega
      have j1 : (0 : Int) ≤ (k : Int) := by omega
      go_wp2_with (first
        | (at_builtin; refine wpList_append_own _ rfl (.tmp 73) (.tmp 75) 30 rfl w.heap.size 23 i1 (.slice none 0 0) 1 24 Try.underlying30 hi1 hy1 hy2 hy3 rfl (by decide) _ vs.length vs rfl (HROW2.out.row.alloc _) ⟨w3.heap.size, 0, none⟩ 1 1 [.slice a6 n1 c6] rfl rfl (news_alloc w3 [.slice a6 n1 c6] 23) (by intro u hu; cases hu with | head => rfl | tail _ h => cases h) (by simp only [maxLen]; omega) (by omega) (by simp; omega) ?_; intro v4 w4 hown4 hgr4 _; have HO4 := Lib.hid hown4; have HG4 := Lib.hid hgr4; clear hown4 hgr4)
        | (at_builtin; refine wpList_append_sl rfl (.tmp 29) (.tmp 30) 23 rfl bR 5 i0 (.int .u8 0) 1 Try.underlying23 hi0 hz0 hz1 hz2 rfl _ r.length _ rfl (own_below HOWN.out hb2 (Nat.le_refl _)) ap cp p rfl HP.out (f8_one _) (by unfold maxLen; omega) (by omega) (by omega) ?_; intro v3 w3 hown3 hgr3; rw [← HN1.out] at hown3; obtain ⟨a6, c6, hv3⟩ := own_slice hown3; subst hv3; have hrow2 : ORow w3 w.heap.size (.slice a4 vs.length c4) vs rows := (HROW.out.below hb2 (Nat.le_refl _)).kept5 (own_below HOWN.out hb2 (Nat.le_refl _)) HLO.out hgr3; have HROW2 := Lib.hid hrow2; have hb3 : Below w.heap.size w w3 := (hbel.trans (hb2.mono hb1)).grown hgr3 (by omega) (fun q hq => Nat.le_trans hbase ((own_below HOWN.out hb2 (Nat.le_refl _)).lt q hq).1); have hs3 := hgr3.size; have HO3 := Lib.hid hown3; clear hown3 hgr3 hrow2; have hway := Fr.scan_ways seg B (rows0.drop (k + 1)) k rows r d g kk p HK.out HPE.out kz HKZ.out n1 HN1.out; rw [hsc.out] at hway; clear hsc; rcases hway with ⟨rfl, rfl, hS⟩ | ⟨rfl, rfl, hn, hS⟩ | ⟨rfl, rfl, hn, hS⟩ | ⟨rfl, rfl, hS⟩ | ⟨rfl, rfl, hp, hS⟩ | ⟨rfl, rfl, hp, hn, hS⟩ | ⟨rfl, rfl, hp, hn, hS⟩ | ⟨rfl, rfl, hS⟩ | ⟨rfl, rfl, hp, hS⟩ | ⟨rfl, rfl, hp, hn, hS⟩ | ⟨rfl, rfl, hp, hn, hS⟩ | ⟨rfl, rfl, hS⟩ | ⟨rfl, rfl, hp, hS⟩ | ⟨rfl, rfl, hp, hn, hS⟩ | ⟨rfl, rfl, hp, hn, hS⟩ | ⟨e1, e2, e3, e4, hS⟩ <;> (have hS' := hS.symm; clear hS; have hS := Lib.hid hS'; clear hS'))
        | (go_at_call 69; refine (piece_any lo hi wr seg k (by omega) _ B HSR.out (Nat.le_trans hhi hb1)).mono ?_; rintro e w2 ⟨u, rfl, ⟨ap, cp, rfl, hp⟩, hb2⟩; have hs2 := hb2.size; obtain ⟨kk, hkk⟩ : ∃ kk, kk = (Fr.piece seg k B).1 := ⟨_, rfl⟩; obtain ⟨p, hpe⟩ : ∃ p, p = (Fr.piece seg k B).2 := ⟨_, rfl⟩; have hpl : p.length ≤ 240 := (by rw [hpe]; exact Fr.piece_le _ _ _); rw [← hpe] at hp; rw [← hpe, ← hkk]; obtain ⟨kz, hkz⟩ : ∃ kz : Int, kz = W8 kk := ⟨_, rfl⟩; rw [← hkz]; obtain ⟨n1, hn1⟩ : ∃ n1, n1 = r.length + p.length := ⟨_, rfl⟩; have hn1' : n1 ≤ 8000 := (by omega); have HK := Lib.hid hkk; have HPE := Lib.hid hpe; have HKZ := Lib.hid (show kz = (kk.toNat : Int) from hkz); have HN1 := Lib.hid hn1; have HP := Lib.hid hp; clear hkk hpe hkz hn1 hp))
      · go_ret2
        obtain ⟨h1, h2⟩ := Prod.mk.inj hS.out
        subst h1 h2
        exact ⟨_, vs, rfl, HROW2.out, hb3⟩
      · go_ret2
        obtain ⟨h1, h2⟩ := Prod.mk.inj hS.out
        subst h1 h2
        exact ⟨_, vs, rfl, HROW2.out, hb3⟩
      · go_roundw
        case rel =>
          have hb4 := (hb3.alloc hb3.size _).grown HG4.out (by have := hb3.size; simp; omega) (fun q hq => (HROW2.out.row.lt q hq).1)
          have hrow4 := ORow.pushOwn (r := r ++ p) HROW2.out (by rw [List.length_append, List.map_append, ← HN1.out]; exact HO3.out) HLO.out hbase HO4.out HG4.out
          refine ⟨k + 1, vs ++ [.slice a6 n1 c6], rows ++ [r ++ p], [], k + 1, false, w4.heap.size, by omega, by go_num, by go_num, rfl, by rw [List.length_append]; simp; omega, by simp, by omega, hrow4, World.ownsRow_nil _ _ _ _, fun x hx q hq => (hrow4.lt.2 x hx q hq).2, hb4.size, Nat.le_refl _, hS, hb4⟩
        case measure => simp [intOf]; omega
      · go_ret2
        obtain ⟨h1, h2⟩ := Prod.mk.inj hS.out
        subst h1 h2
        exact ⟨_, vs, rfl, HROW2.out, hb3⟩
      · go_ret2
        obtain ⟨h1, h2⟩ := Prod.mk.inj hS.out
        subst h1 h2
        exact ⟨_, vs, rfl, HROW2.out, hb3⟩
      · go_ret2
        obtain ⟨h1, h2⟩ := Prod.mk.inj hS.out
        subst h1 h2
        exact ⟨_, vs, rfl, HROW2.out, hb3⟩
      · go_roundw
        case rel => exact ⟨k + 1, vs, rows, r ++ p, d, true, bR, by omega, by go_num, rfl, rfl, by omega, by rw [List.length_append, ← HN1.out]; omega, by omega, HROW2.out, by rw [List.length_append, List.map_append, ← HN1.out]; exact HO3.out, HLO.out, hbase, by omega, hS, hb3⟩
        case measure => simp [intOf]; omega
      · go_ret2
        obtain ⟨h1, h2⟩ := Prod.mk.inj hS.out
        subst h1 h2
        exact ⟨_, vs, rfl, HROW2.out, hb3⟩
      · go_ret2
        obtain ⟨h1, h2⟩ := Prod.mk.inj hS.out
        subst h1 h2
        exact ⟨_, vs, rfl, HROW2.out, hb3⟩
      · go_ret2
        obtain ⟨h1, h2⟩ := Prod.mk.inj hS.out
        subst h1 h2
        exact ⟨_, vs, rfl, HROW2.out, hb3⟩
      · go_roundw
        case rel => exact ⟨k + 1, vs, rows, r ++ p, d, true, bR, by omega, by go_num, rfl, rfl, by omega, by rw [List.length_append, ← HN1.out]; omega, by omega, HROW2.out, by rw [List.length_append, List.map_append, ← HN1.out]; exact HO3.out, HLO.out, hbase, by omega, hS, hb3⟩
        case measure => simp [intOf]; omega
      · go_ret2
        obtain ⟨h1, h2⟩ := Prod.mk.inj hS.out
        subst h1 h2
        exact ⟨_, vs, rfl, HROW2.out, hb3⟩
      · go_ret2
        obtain ⟨h1, h2⟩ := Prod.mk.inj hS.out
        subst h1 h2
        exact ⟨_, vs, rfl, HROW2.out, hb3⟩
      · go_ret2
        obtain ⟨h1, h2⟩ := Prod.mk.inj hS.out
        subst h1 h2
        exact ⟨_, vs, rfl, HROW2.out, hb3⟩
      · go_roundw
        case rel =>
          have hb4 := (hb3.alloc hb3.size _).grown HG4.out (by have := hb3.size; simp; omega) (fun q hq => (HROW2.out.row.lt q hq).1)
          have hrow4 := ORow.pushOwn (r := r ++ p) HROW2.out (by rw [List.length_append, List.map_append, ← HN1.out]; exact HO3.out) HLO.out hbase HO4.out HG4.out
          refine ⟨k + 1, vs ++ [.slice a6 n1 c6], rows ++ [r ++ p], [], k + 1, false, w4.heap.size, by omega, by go_num, by go_num, rfl, by rw [List.length_append]; simp; omega, by simp, by omega, hrow4, World.ownsRow_nil _ _ _ _, fun x hx q hq => (hrow4.lt.2 x hx q hq).2, hb4.size, Nat.le_refl _, hS, hb4⟩
        case measure => simp [intOf]; omega
      · go_ret2
        obtain ⟨h1, h2⟩ := Prod.mk.inj hS.out
        subst h1 h2
        exact ⟨_, vs, rfl, HROW2.out, hb3⟩
    · have e : k = rows0.length := by omega
      subst e
      have hS' := hS.out
      rw [List.drop_length] at hS'
      rw [Fr.scan] at hS'
      injection hS' with h1 h2
      subst h1 h2
      clear hS
      go_wp2
      go_ret2
      exact ⟨_, vs, rfl, hrow, hbel⟩
end Go.Proofs.Ytckmeomhcikmoaa
