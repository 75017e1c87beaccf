/- BitsBack: the walk. -/
import Derived.Test.YtnplcfgjidolbaaBackPlain
import Derived.Test.YtnplcfgjidolbaaWBitsOne
import Derived.RegionTactic
import Derived.BigRegion
import Derived.Outline
import Derived.Deep.DeepCutAuto
namespace Go.Proofs.Ytnplcfgjidolbaa.bitsBack
open Go.RowKit

theorem _root_.Go.Proofs.Ytnplcfgjidolbaa.Wr.drew {w : World} {B : Nat} {r : Option Nat} {L : List Bool} (h : Wr w B r L) : Wr w.drew B r L :=
  h.below (B := B) (N := w.heap.size) ⟨rfl, rfl, rfl, Nat.le_refl _, fun _ _ => rfl⟩ (Nat.le_refl _)
theorem rd_below {W W' : World} {B a lo hi N : Nat} {v : Value} {l : List UInt8} (h : Rd W B v a l lo hi) (hb : Below N W W') (hi' : hi ≤ N) (hB : B < N) : Rd W' B v a l lo hi :=
  ⟨by rw [hb.block _ hB]; exact h.cells, h.data.below hb hi', h.apart, h.le⟩
theorem rs_ok {w : World} {B at_ lo hi a' : Nat} {v : Value} {l : List UInt8} {z : Int} (h : Calls Try.prog 28 #[.pointer (some ⟨B, 0, none⟩)] w (RsPost w B at_ lo hi v l (.inr (zz z, a')))) :
    Calls Try.prog 28 #[.pointer (some ⟨B, 0, none⟩)] w fun e w' => e = .returned (.tuple #[.int .i64 z, .int .u16 0]) ∧ Rd w' B v a' l lo hi ∧ Gro B none w w' :=
  h.mono (by rintro e w' ⟨h1, h2⟩; rw [un_zz] at h1; exact ⟨h1, h2⟩)
/-- The copy of a call behind a read. -/
theorem copy_cells {wx wy : World} {B : Nat} {x : Opv} (hB : B < wx.heap.size) (g : Gro B none (wx.alloc (.cells #[.int .u8 (x.k : Int), .int .u64 (x.v : Int), .int .i64 x.n] 79)) wy) :
    wy.heap[wx.heap.size]? = some (.cells #[.int .u8 (x.k : Int), .int .u64 (x.v : Int), .int .i64 x.n] 79 (0, 0)) := by
  rw [g.block _ (by simp) (by omega) (by simp)]; exact heap_alloc_new _ _
/-- What a put leaves. -/
def Put (n B : Nat) (L : List Bool) (v : Value) (w : World) (e : Ending) (w' : World) : Prop := e = .returned v ∧ ∃ r', Wr w' B r' L ∧ (∀ q, r' = some q → n ≤ q) ∧ Below n w w'
theorem put_of {n B : Nat} {r : Option Nat} {L : List Bool} {v : Value} {w w' : World} {e : Ending} (hr : ∀ q, r = some q → n ≤ q) (hB : n ≤ B) (hn : n ≤ w.heap.size)
    (h : e = .returned v ∧ ∃ r', Wr w' B r' L ∧ Gro B r w w' ∧ Anew w r r') : Put n B L v w e w' := by
  obtain ⟨h1, r', h2, h3, h4⟩ := h
  refine ⟨h1, r', h2, fun q hq => ?_, h3.below hn hB hr⟩
  rcases h4 q hq with h | h
  · exact hr q h
  · omega
theorem bits_put (n : Nat) (w : World) (B : Nat) (r : Option Nat) (L : List Bool) (v : Nat) (z : Int) (h : Wr w B r L) (hL : L.length + 64 < 1099511627776) (hv : v < 18446744073709551616) (hr : ∀ q, r = some q → n ≤ q) (hB : n ≤ B) (hn : n ≤ w.heap.size) :
    Calls Try.prog 24 #[.pointer (some ⟨B, 0, none⟩), .int .u64 v, .int .i64 z] w (Put n B (L ++ if 0 ≤ z ∧ z ≤ 64 then Bt.nb v z.toNat else []) (.int .u16 (if 0 ≤ z ∧ z ≤ 64 then 0 else 1)) w) := by
  by_cases hz : 0 ≤ z ∧ z ≤ 64
  · obtain ⟨m, rfl⟩ := Int.eq_ofNat_of_zero_le hz.1
    rw [if_pos hz, if_pos hz]
    exact (bits_any w B r L v m h (by omega) hv (by omega)).mono fun e w' h => put_of hr hB hn h
  · rw [if_neg hz, if_neg hz]
    refine (bits_bad w B v z (by omega)).mono ?_
    rintro e w' ⟨rfl, rfl⟩
    exact ⟨rfl, r, by rw [List.append_nil]; exact h, hr, Below.refl _ _⟩

theorem _root_.Go.Proofs.Ytnplcfgjidolbaa.Ops.vs {hi : Nat} {w : World} {ao : Option Addr} {cap : Nat} {l : List Opv} (h : Ops hi w ao cap l) : ∀ o ∈ l, o.v < 18446744073709551616 := by
  intro o ho
  obtain ⟨b, off, _, _, hc⟩ := h.cells (by intro e; subst e; simp at ho)
  obtain ⟨j, hj, rfl⟩ := List.getElem_of_mem ho
  exact (hc j hj).v
theorem odd_of (v : Nat) : (((v : Int) % 2) == 1) = decide (v % 2 = 1) := by
  by_cases h : v % 2 = 1
  · have : (v : Int) % 2 = 1 := by omega
    simp [h, this]
  · have : (v : Int) % 2 = 0 := by omega
    simp [h, this]

set_option maxHeartbeats 4000000 in
set_option maxRecDepth 100000 in
theorem walk (ao : Option Addr) (cap : Nat) (l : List Opv) (w : World) (h : Ops w.heap.size w ao cap l) :
    Calls Try.prog 5 #[.slice ao l.length cap] w fun e w' => e = .returned (.bool true) ∧ Below w.heap.size w w' := by
  have hv := h.vs
  have HH := Lib.hid h
  have hlen := h.len
  have hml : l.length ≤ 9223372036854775807 := hlen
  clear h hlen
  have HL : ∀ i : Nat, i ≤ l.length → (pre l i).length ≤ 80 * i := by
    intro i
    induction i with
    | zero => intro _; simp [pre_zero]
    | succ i ih =>
      intro hi
      rw [pre_succ l i (by omega), List.length_append]
      have := ih (by omega)
      have := opBits_le l[i] (hv _ (List.getElem_mem _))
      omega
  have HL := Lib.hid HL
  go_enter Try.func5, Try.ntmps5
  go_upto_region 4 with (first
    | (go_at_call 14; refine (new2_any _).mono ?_; rintro e w1 ⟨rfl, hW1, hb1, hs1⟩; have HW1 := Lib.hid hW1; have HS1 := Lib.hid hs1; clear hW1 hs1)
    | (go_at_call 10; refine (known_any _).mono ?_; rintro e w2 ⟨rfl, hb2⟩))
  have hk2 : Below w.heap.size w w2 := hb1.trans (hb2.mono hb1.size)
  have HB2 := Lib.hid hk2
  have HW2 := Lib.hid (HW1.out.below hb2 (Nat.le_refl _))
  clear hb1 hb2 hk2
  go_cut [4] (fun n wc => ∃ m : Nat, m ≤ 2000 ∧ m ≤ l.length ∧ n = .int .i64 m ∧ wc = w2)
  case first =>
    rcases Int.lt_trichotomy (l.length : Int) 2000 with hb | hb | hb
    all_goals
      go_wp2
      go_meet
      case rel => first | exact ⟨2000, by omega, by omega, rfl, rfl⟩ | exact ⟨l.length, by omega, by omega, rfl, rfl⟩
  case rest =>
    obtain ⟨m, hm1, hm2, rfl, rfl⟩ := hcut
    go_wp2_with fail
    go_loopw [5] (fun i wr => ∃ k : Nat, i = .int .i64 k ∧ k ≤ m ∧ ∃ r, Wr wr w.heap.size r (pre l k) ∧ (∀ q, r = some q → w.heap.size ≤ q) ∧ Below w.heap.size w wr) (fun i _ => m - (intOf i).toNat)
    case atStart => exact ⟨0, rfl, Nat.zero_le _, none, HW2.out, by simp, HB2.out⟩
    case round =>
      obtain ⟨k, rfl, hk, r, hwr, hrr, hbr⟩ := hrel
      have HWR := Lib.hid hwr
      have HRR := Lib.hid hrr
      have hsz := hbr.size
      have HBR := Lib.hid hbr
      clear hwr hrr hbr
      by_cases hlt : k < m
      · have hll : k < l.length := by omega
        obtain ⟨b, off, rfl, hbh, hcell⟩ := (HH.out.below HBR.out (Nat.le_refl _)).cells (by intro e; subst e; simp at hll)
        obtain ⟨c0, c1, c2, hk0, hv0, hn0⟩ := hcell k hll
        have i1 : (0 : Int) ≤ (k : Int) ∧ (k : Int) < (l.length : Int) := by omega
        have hps := pre_succ l k hll
        have HLk := HL.out k (Nat.le_trans hk hm2)
        have HPS := Lib.hid hps
        clear hcell hps
        generalize l[k] = x at *
        have hodd := odd_of x.v
        have hkk : x.k % 4 = 0 ∨ x.k % 4 = 1 ∨ x.k % 4 = 2 ∨ x.k % 4 = 3 := by omega
        rcases hkk with hkk | hkk | hkk | hkk
        · have hki : (x.k : Int) % 4 = 0 := by omega
          have hob : opBits x = [decide (x.v % 2 = 1)] := by unfold opBits; rw [if_pos hkk]
          have HOB := Lib.hid hob
          clear hob
          have HC : Calls Try.prog 23 #[.pointer (some ⟨w.heap.size, 0, none⟩), .bool (decide (x.v % 2 = 1))] wr (Put w.heap.size w.heap.size (pre l k ++ [decide (x.v % 2 = 1)]) (.tuple #[]) wr) := (bit_any wr w.heap.size r _ _ HWR.out (by omega)).mono fun e w' h => put_of HRR.out (Nat.le_refl _) hsz h
          have HC := Lib.hid HC
          go_wp2_with (go_at_call 23; refine Calls.mono HC.out ?_; rintro e w' ⟨rfl, r', hW', hr', hb'⟩)
          go_roundw
          case rel => exact ⟨k + 1, by push_cast; rfl, by omega, r', by rw [HPS.out, HOB.out]; exact hW', hr', HBR.out.trans hb'⟩
          case measure => simp [intOf]; omega
        · have hki : (x.k : Int) % 4 = 1 := by omega
          have hob : opBits x = (if 0 ≤ x.n ∧ x.n ≤ 64 then Bt.nb x.v x.n.toNat else []) := by unfold opBits; rw [if_neg (by omega), if_pos hkk]
          have HOB := Lib.hid hob
          clear hob
          obtain ⟨ev, HC⟩ : ∃ ev : Int, Calls Try.prog 24 #[.pointer (some ⟨w.heap.size, 0, none⟩), .int .u64 (x.v : Int), .int .i64 x.n] wr.drew (Put w.heap.size w.heap.size (pre l k ++ (if 0 ≤ x.n ∧ x.n ≤ 64 then Bt.nb x.v x.n.toNat else [])) (.int .u16 ev) wr.drew) := ⟨_, bits_put w.heap.size wr.drew w.heap.size r (pre l k) x.v x.n HWR.out.drew (by omega) hv0 HRR.out (Nat.le_refl _) hsz⟩
          have HC := Lib.hid HC
          go_wp2
          have s1 : wr.drew.cell? ⟨b, off + k * 3 + 1, none⟩ = some (.int .u64 (x.v : Int)) := c1
          have s2 : wr.drew.cell? ⟨b, off + k * 3 + 2, none⟩ = some (.int .i64 x.n) := c2
          go_region_held3 (fun w' => w'.cell? ⟨b, off + k * 3 + 1, none⟩ = some (.int .u64 (x.v : Int)) ∧ w'.cell? ⟨b, off + k * 3 + 2, none⟩ = some (.int .i64 x.n)) (first | assumption | exact ⟨by assumption, by assumption⟩) (first
            | (go_at_call 24; refine Calls.mono HC.out ?_; rintro e w' ⟨rfl, r', hW', hr', hb'⟩;
               have s3 : w'.cell? ⟨b, off + k * 3 + 1, none⟩ = some (.int .u64 (x.v : Int)) := (World.cell?_of_block (hb'.block b hbh)).trans s1;
               have s4 : w'.cell? ⟨b, off + k * 3 + 2, none⟩ = some (.int .i64 x.n) := (World.cell?_of_block (hb'.block b hbh)).trans s2;
               have hb' : Below w.heap.size wr w' := ⟨hb'.os, hb'.tape, hb'.output, hb'.size, hb'.block⟩))
          all_goals go_wp2
          go_roundw
          case rel => exact ⟨k + 1, by push_cast; rfl, by omega, r', by rw [HPS.out, HOB.out]; exact hW', hr', HBR.out.trans hb'⟩
          case measure => simp [intOf]; omega
        · have hki : (x.k : Int) % 4 = 2 := by omega
          have hob : opBits x = Bt.vb x.v := by unfold opBits; rw [if_neg (by omega), if_neg (by omega), if_pos hkk]
          have HOB := Lib.hid hob
          clear hob
          have HC : Calls Try.prog 15 #[.pointer (some ⟨w.heap.size, 0, none⟩), .int .u64 (x.v : Int)] wr (Put w.heap.size w.heap.size (pre l k ++ Bt.vb x.v) (.tuple #[]) wr) := (varint_any wr w.heap.size r _ x.v HWR.out (by omega) hv0).mono fun e w' h => put_of HRR.out (Nat.le_refl _) hsz h
          have HC := Lib.hid HC
          go_wp2_with (go_at_call 15; refine Calls.mono HC.out ?_; rintro e w' ⟨rfl, r', hW', hr', hb'⟩)
          go_roundw
          case rel => exact ⟨k + 1, by push_cast; rfl, by omega, r', by rw [HPS.out, HOB.out]; exact hW', hr', HBR.out.trans hb'⟩
          case measure => simp [intOf]; omega
        · have hki : (x.k : Int) % 4 = 3 := by omega
          have hob : opBits x = Bt.vb (zz (wrap64 (x.v : Int))) := by unfold opBits; rw [if_neg (by omega), if_neg (by omega), if_neg (by omega)]
          have HOB := Lib.hid hob
          clear hob
          have HC : Calls Try.prog 25 #[.pointer (some ⟨w.heap.size, 0, none⟩), .int .i64 (wrap64 (x.v : Int))] wr (Put w.heap.size w.heap.size (pre l k ++ Bt.vb (zz (wrap64 (x.v : Int)))) (.tuple #[]) wr) := (signed_any wr w.heap.size r _ (wrap64 (x.v : Int)) HWR.out (by omega) (sv_in _).1 (sv_in _).2).mono fun e w' h => put_of HRR.out (Nat.le_refl _) hsz h
          have HC := Lib.hid HC
          go_wp2_with (go_at_call 25; refine Calls.mono HC.out ?_; rintro e w' ⟨rfl, r', hW', hr', hb'⟩)
          go_roundw
          case rel => exact ⟨k + 1, by push_cast; rfl, by omega, r', by rw [HPS.out, HOB.out]; exact hW', hr', HBR.out.trans hb'⟩
          case measure => simp [intOf]; omega
      · obtain rfl : m = k := by omega
        have HPL := HL.out m hm2
        go_wp2_with (first
          | (go_at_call 17; refine (bytes_sl wr w.heap.size r _ HWR.out (by omega)).mono ?_; rintro e w3 ⟨v3, rfl, hs3, hb3⟩)
          | (go_at_call 11; refine (read_any _ _ w3 v3 _ hs3 (Nat.le_refl _)).mono ?_; rintro e w4 ⟨B4, v4, hi4, rfl, hB4, hR4, hb4, hh4, hl4⟩))
        have hb4' : Below w.heap.size w w4 := (HBR.out.trans (hb3.mono hsz)).trans (hb4.mono (by have := hb3.size; omega))
        have HB4 := Lib.hid hb4'
        have HR4 := Lib.hid hR4
        have z3 : w.heap.size ≤ w3.heap.size := by have := hb3.size; omega
        clear hR4 hb3 hb4 hb4'
        go_loopw [7] (fun i wx => ∃ k : Nat, i = .int .i64 k ∧ k ≤ m ∧ Rd wx B4 v4 (pre l k).length (Bt.pack (pre l (m))) w3.heap.size hi4 ∧ Below w.heap.size w wx ∧ hi4 ≤ wx.heap.size) (fun i _ => m - (intOf i).toNat)
        case atStart => exact ⟨0, rfl, Nat.zero_le _, HR4.out, HB4.out, hh4⟩
        case round =>
          obtain ⟨k, rfl, hk, hrd, hbx, hhx⟩ := hrel
          have HRD := Lib.hid hrd
          have HBX := Lib.hid hbx
          have hsx := hbx.size
          clear hrd hbx
          by_cases hlt : k < m
          · have hll : k < l.length := by omega
            obtain ⟨b, off, rfl, hbh, hcell⟩ := (HH.out.below HBX.out (Nat.le_refl _)).cells (by intro e; subst e; simp at hll)
            obtain ⟨c0, c1, c2, hk0, hv0, hn0⟩ := hcell k hll
            have i1 : (0 : Int) ≤ (k : Int) ∧ (k : Int) < (l.length : Int) := by omega
            have hps := pre_succ l k hll
            obtain ⟨C, hsp⟩ := split_at l (m) k hlt (by omega)
            have HPS := Lib.hid hps
            have HSP := Lib.hid hsp
            clear hcell hps hsp
            generalize l[k] = x at *
            have hB4 : B4 < wr.heap.size := block_lt_of_cell (two_cells HRD.out.cells).1
            have hrd2 : Rd (wr.alloc (.cells #[.int .u8 (x.k : Int), .int .u64 (x.v : Int), .int .i64 x.n] 79)) B4 v4 (pre l k).length (Bt.pack (pre l (m))) w3.heap.size hi4 := rd_below HRD.out ((Below.refl _ _).alloc (Nat.le_refl _) _) hhx hB4
            have HRD2 := Lib.hid hrd2
            clear hrd2
            have hodd := odd_of x.v
            have hkk : x.k % 4 = 0 ∨ x.k % 4 = 1 ∨ x.k % 4 = 2 ∨ x.k % 4 = 3 := by omega
            rcases hkk with hkk | hkk | hkk | hkk
            · have hki : (x.k : Int) % 4 = 0 := by omega
              have hob : opBits x = [decide (x.v % 2 = 1)] := by unfold opBits; rw [if_pos hkk]
              have hsp := HSP.out
              rw [hob] at hsp
              have hc := rbit_any w3.heap.size hi4 _ B4 (pre l k).length v4 _ HRD2.out (fits _ _ _ _ hsp)
              rw [bit_back _ _ _ _ hsp] at hc
              have HC := Lib.hid hc
              have HOB := Lib.hid hob
              clear hob hsp hc
              go_wp2_with (go_at_call 26; refine Calls.mono HC.out ?_; rintro e wy ⟨rfl, hr', hg'⟩; have hcp := copy_cells hB4 hg'; obtain ⟨y1, y2⟩ := And.intro (show wy.cell? ⟨wr.heap.size, 1, none⟩ = some (.int .u64 (x.v : Int)) by rw [cell_of_row _ _ _ _ _ _ hcp]; rfl) (show wy.cell? ⟨wr.heap.size, 2, none⟩ = some (.int .i64 x.n) by rw [cell_of_row _ _ _ _ _ _ hcp]; rfl); have HR' := Lib.hid hr'; have HG' := Lib.hid hg'; clear hr' hg' hcp)
              go_roundw
              case rel =>
                have hz : Below w.heap.size wr wy := (((Below.refl _ _).alloc (Nat.le_refl _) _).mono hsx).trans (HG'.out.below (by simp; omega) (by omega) (by simp))
                refine ⟨k + 1, by push_cast; rfl, by omega, ?_, HBX.out.trans hz, Nat.le_trans hhx hz.size⟩
                rw [HPS.out, HOB.out, List.length_append]
                exact HR'.out
              case measure => simp [intOf]; omega
            · have hki : (x.k : Int) % 4 = 1 := by omega
              by_cases hz : 0 ≤ x.n ∧ x.n ≤ 64
              · obtain ⟨hz1, hz2⟩ := hz
                have hm : ((x.n.toNat : Nat) : Int) = x.n := Int.toNat_of_nonneg hz1
                have hob : opBits x = Bt.nb x.v x.n.toNat := by unfold opBits; rw [if_neg (by omega), if_pos hkk, if_pos ⟨hz1, hz2⟩]
                have hsp := HSP.out
                rw [hob] at hsp
                have hc := rbits_any w3.heap.size hi4 _ B4 (pre l k).length x.n.toNat v4 _ HRD2.out (by omega) (by have := fits _ _ _ _ hsp; rw [Bt.nb_len] at this; exact this)
                rw [bits_back _ _ _ _ _ hsp, hm] at hc
                have hma := mask_and x.v x.n.toNat (by omega)
                rw [Nat.mod_eq_of_lt (Nat.lt_of_le_of_lt (Nat.mod_le _ _) hv0)] at hma
                clear hm
                have HC := Lib.hid hc
                have HOB := Lib.hid hob
                clear hob hsp hc
                go_wp2_with (go_at_call 27; refine Calls.mono HC.out ?_; rintro e wy ⟨rfl, hr', hg'⟩; have hcp := copy_cells hB4 hg'; obtain ⟨y1, y2⟩ := And.intro (show wy.cell? ⟨wr.heap.size, 1, none⟩ = some (.int .u64 (x.v : Int)) by rw [cell_of_row _ _ _ _ _ _ hcp]; rfl) (show wy.cell? ⟨wr.heap.size, 2, none⟩ = some (.int .i64 x.n) by rw [cell_of_row _ _ _ _ _ _ hcp]; rfl); have HR' := Lib.hid hr'; have HG' := Lib.hid hg'; clear hr' hg' hcp)
                go_roundw
                case rel =>
                  have hz : Below w.heap.size wr wy := (((Below.refl _ _).alloc (Nat.le_refl _) _).mono hsx).trans (HG'.out.below (by simp; omega) (by omega) (by simp))
                  refine ⟨k + 1, by push_cast; rfl, by omega, ?_, HBX.out.trans hz, Nat.le_trans hhx hz.size⟩
                  rw [HPS.out, HOB.out, List.length_append, Bt.nb_len]
                  exact HR'.out
                case measure => simp [intOf]; omega
              · have hzn : x.n < 0 ∨ 64 < x.n := by omega
                have hob : opBits x = [] := by unfold opBits; rw [if_neg (by omega), if_pos hkk, if_neg hz]
                have hc := rbits_bad (wr.alloc (.cells #[.int .u8 (x.k : Int), .int .u64 (x.v : Int), .int .i64 x.n] 79)) B4 x.n hzn
                have HC := Lib.hid hc
                have HOB := Lib.hid hob
                clear hob hc hz
                have hcp : (wr.alloc (.cells #[.int .u8 (x.k : Int), .int .u64 (x.v : Int), .int .i64 x.n] 79)).heap[wr.heap.size]? = some (.cells #[.int .u8 (x.k : Int), .int .u64 (x.v : Int), .int .i64 x.n] 79 (0, 0)) := heap_alloc_new _ _
                rcases hzn with hzn | hzn
                all_goals
                  go_wp2_with (go_at_call 27; refine Calls.mono HC.out ?_; rintro e wy ⟨rfl, rfl⟩; obtain ⟨y1, y2⟩ := And.intro (show (wr.alloc (.cells #[.int .u8 (x.k : Int), .int .u64 (x.v : Int), .int .i64 x.n] 79)).cell? ⟨wr.heap.size, 1, none⟩ = some (.int .u64 (x.v : Int)) by rw [cell_of_row _ _ _ _ _ _ hcp]; rfl) (show (wr.alloc (.cells #[.int .u8 (x.k : Int), .int .u64 (x.v : Int), .int .i64 x.n] 79)).cell? ⟨wr.heap.size, 2, none⟩ = some (.int .i64 x.n) by rw [cell_of_row _ _ _ _ _ _ hcp]; rfl))
                  go_roundw
                  case rel =>
                    have hz : Below w.heap.size wr (wr.alloc (.cells #[.int .u8 (x.k : Int), .int .u64 (x.v : Int), .int .i64 x.n] 79)) := ((Below.refl _ _).alloc (Nat.le_refl _) _).mono hsx
                    refine ⟨k + 1, by push_cast; rfl, by omega, ?_, HBX.out.trans hz, Nat.le_trans hhx hz.size⟩
                    rw [HPS.out, HOB.out, List.append_nil]
                    exact HRD2.out
                  case measure => simp [intOf]; omega
            · have hki : (x.k : Int) % 4 = 2 := by omega
              have hob : opBits x = Bt.vb x.v := by unfold opBits; rw [if_neg (by omega), if_neg (by omega), if_pos hkk]
              have hsp := HSP.out
              rw [hob] at hsp
              have hc := rvarint_any w3.heap.size hi4 _ B4 (pre l k).length v4 _ HRD2.out (by simp; omega)
              rw [var_back _ _ _ _ hv0 hsp] at hc
              have HC := Lib.hid hc
              have HOB := Lib.hid hob
              clear hob hsp hc
              go_wp2_with (go_at_call 12; refine Calls.mono HC.out ?_; rintro e wy ⟨rfl, hr', hg'⟩; have hcp := copy_cells hB4 hg'; obtain ⟨y1, y2⟩ := And.intro (show wy.cell? ⟨wr.heap.size, 1, none⟩ = some (.int .u64 (x.v : Int)) by rw [cell_of_row _ _ _ _ _ _ hcp]; rfl) (show wy.cell? ⟨wr.heap.size, 2, none⟩ = some (.int .i64 x.n) by rw [cell_of_row _ _ _ _ _ _ hcp]; rfl); have HR' := Lib.hid hr'; have HG' := Lib.hid hg'; clear hr' hg' hcp)
              go_roundw
              case rel =>
                have hz : Below w.heap.size wr wy := (((Below.refl _ _).alloc (Nat.le_refl _) _).mono hsx).trans (HG'.out.below (by simp; omega) (by omega) (by simp))
                refine ⟨k + 1, by push_cast; rfl, by omega, ?_, HBX.out.trans hz, Nat.le_trans hhx hz.size⟩
                rw [HPS.out, HOB.out, List.length_append]
                exact HR'.out
              case measure => simp [intOf]; omega
            · have hki : (x.k : Int) % 4 = 3 := by omega
              have hob : opBits x = Bt.vb (zz (wrap64 (x.v : Int))) := by unfold opBits; rw [if_neg (by omega), if_neg (by omega), if_neg (by omega)]
              have hsp := HSP.out
              rw [hob] at hsp
              have hc := rsigned_any w3.heap.size hi4 _ B4 (pre l k).length v4 _ HRD2.out (by simp; omega)
              rw [var_back _ _ _ _ (zz_lt _ (sv_in _).1 (sv_in _).2) hsp] at hc
              have hc := rs_ok hc
              have HC := Lib.hid hc
              have HOB := Lib.hid hob
              clear hob hsp hc
              go_wp2_with (go_at_call 28; refine Calls.mono HC.out ?_; rintro e wy ⟨rfl, hr', hg'⟩; have hcp := copy_cells hB4 hg'; obtain ⟨y1, y2⟩ := And.intro (show wy.cell? ⟨wr.heap.size, 1, none⟩ = some (.int .u64 (x.v : Int)) by rw [cell_of_row _ _ _ _ _ _ hcp]; rfl) (show wy.cell? ⟨wr.heap.size, 2, none⟩ = some (.int .i64 x.n) by rw [cell_of_row _ _ _ _ _ _ hcp]; rfl); have HR' := Lib.hid hr'; have HG' := Lib.hid hg'; clear hr' hg' hcp)
              go_roundw
              case rel =>
                have hz : Below w.heap.size wr wy := (((Below.refl _ _).alloc (Nat.le_refl _) _).mono hsx).trans (HG'.out.below (by simp; omega) (by omega) (by simp))
                refine ⟨k + 1, by push_cast; rfl, by omega, ?_, HBX.out.trans hz, Nat.le_trans hhx hz.size⟩
                rw [HPS.out, HOB.out, List.length_append]
                exact HR'.out
              case measure => simp [intOf]; omega
          · obtain rfl : m = k := by omega
            have hpk := Bt.pack_len (pre l (m))
            go_wp2_with (go_at_call 13; refine (left_any _ _ _ B4 _ v4 _ HRD.out).mono ?_; rintro e wz ⟨rfl, q, rfl⟩)
            have hfin : decide (8 * ((((pre l (m)).length : Int) + 7) / 8) - ((pre l (m)).length : Int) < 8) = true := decide_eq_true (by omega)
            rw [hfin]
            go_ret
            exact ⟨rfl, ⟨HBX.out.os, HBX.out.tape, HBX.out.output, HBX.out.size, HBX.out.block⟩⟩
end Go.Proofs.Ytnplcfgjidolbaa.bitsBack
