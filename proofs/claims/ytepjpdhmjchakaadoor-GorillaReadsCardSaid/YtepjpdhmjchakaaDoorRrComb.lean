/- The reader's contracts, of good readers and of bad ones in one: so that a walk need not be parted. -/
import Derived.Test.YtepjpdhmjchakaaDoorRrPlain
namespace Go.Proofs.YtepjpdhmjchakaaDoor
open Go.RowKit
set_option linter.unusedVariables false

/-- The next bits. -/
theorem gbits_c {w : World} {Q B at_ lo hi step : Nat} {v : Value} {l : List UInt8} {bad is : Bool} {wl wr : Int} (h : Rg w Q B v at_ l lo hi bad step wl wr is) (n : Nat) (hn : n ≤ 64) :
    Calls Tryd.prog 92 #[.pointer (some ⟨Q, 0, none⟩), .int .i64 (n : Int)] w fun e w' => ∃ x a bad', x < 18446744073709551616 ∧ e = .returned (.int .u64 ((x : Nat) : Int)) ∧ Rg w' Q B v a l lo hi bad' step wl wr is ∧ Ga Q B none w w' ∧
      ((bad = false ∧ Gz.rdk (Bt.unpack l) at_ n = some (x, a) ∧ bad' = false) ∨ (bad' = true ∧ (bad = true ∨ Gz.rdk (Bt.unpack l) at_ n = none))) := by
  cases bad
  · refine (gbits_any h n hn).mono ?_
    rintro e w' (⟨x, a, h1, h2, h3, h4, h5⟩ | ⟨h1, h3, h4, h5⟩)
    · exact ⟨x, a, false, h2, h3, h4, h5, .inl ⟨rfl, h1, rfl⟩⟩
    · exact ⟨0, at_, true, by decide, h3, h4, h5, .inr ⟨rfl, .inr h1⟩⟩
  · refine (gbits_bad h n).mono ?_
    rintro e w' ⟨x, a, h1, h2, h3, h4⟩
    exact ⟨x, a, true, h1, h2, h3, h4, .inr ⟨rfl, .inl rfl⟩⟩
/-- The next change of steps. -/
theorem change_c {w : World} {Q B at_ lo hi step : Nat} {v : Value} {l : List UInt8} {bad is : Bool} {wl wr : Int} (h : Rg w Q B v at_ l lo hi bad step wl wr is) :
    Calls Tryd.prog 94 #[.pointer (some ⟨Q, 0, none⟩)] w fun e w' => ∃ x a bad', x < 18446744073709551616 ∧ e = .returned (.int .u64 ((x : Nat) : Int)) ∧ Rg w' Q B v a l lo hi bad' step wl wr is ∧ Ga Q B none w w' ∧
      ((bad = false ∧ Gz.chgD (Bt.unpack l) at_ = some (x, a) ∧ bad' = false) ∨ (bad' = true ∧ (bad = true ∨ Gz.chgD (Bt.unpack l) at_ = none))) := by
  cases bad
  · refine (change_any h).mono ?_
    rintro e w' (⟨x, a, h1, h2, h3, h4, h5⟩ | ⟨h1, x, a, h2, h3, h4, h5⟩)
    · exact ⟨x, a, false, h2, h3, h4, h5, .inl ⟨rfl, h1, rfl⟩⟩
    · exact ⟨x, a, true, h2, h3, h4, h5, .inr ⟨rfl, .inr h1⟩⟩
  · refine (change_bad h).mono ?_
    rintro e w' ⟨x, a, h1, h2, h3, h4⟩
    exact ⟨x, a, true, h1, h2, h3, h4, .inr ⟨rfl, .inl rfl⟩⟩
/-- The next number; of a good reader the window is one of naturals. -/
theorem number_c {w : World} {Q B at_ lo hi step : Nat} {v : Value} {l : List UInt8} {bad is : Bool} {wl wr : Int} (h : Rg w Q B v at_ l lo hi bad step wl wr is) (hw : bad = false → ∃ a b : Nat, wl = a ∧ wr = b ∧ a + b ≤ 63) :
    Calls Tryd.prog 95 #[.pointer (some ⟨Q, 0, none⟩)] w fun e w' => ∃ x c bad' wl' wr', x < 18446744073709551616 ∧ e = .returned (.int .u64 ((x : Nat) : Int)) ∧ Rg w' Q B v c l lo hi bad' step wl' wr' is ∧ Ga Q B none w w' ∧
      ((bad = false ∧ (∃ a b a' b' : Nat, wl = a ∧ wr = b ∧ wl' = a' ∧ wr' = b' ∧ Gz.numD (Bt.unpack l) (a, b) at_ = some (x, (a', b'), c) ∧ a' + b' ≤ 63) ∧ bad' = false) ∨
       (bad' = true ∧ (bad = true ∨ ∃ a b : Nat, wl = a ∧ wr = b ∧ Gz.numD (Bt.unpack l) (a, b) at_ = none))) := by
  cases bad
  · obtain ⟨a, b, rfl, rfl, hab⟩ := hw rfl
    refine (gnumber_any h hab).mono ?_
    rintro e w' (⟨x, a', b', c, h1, h2, h3, h4, h5, h6⟩ | ⟨h1, x, c, wl', wr', h2, h3, h4, h5⟩)
    · exact ⟨x, c, false, _, _, h2, h3, h4, h6, .inl ⟨rfl, ⟨a, b, a', b', rfl, rfl, rfl, rfl, h1, h5⟩, rfl⟩⟩
    · exact ⟨x, c, true, wl', wr', h2, h3, h4, h5, .inr ⟨rfl, .inr ⟨a, b, rfl, rfl, h1⟩⟩⟩
  · refine (gnumber_bad h).mono ?_
    rintro e w' ⟨x, c, wl', wr', h1, h2, h3, h4⟩
    exact ⟨x, c, true, wl', wr', h1, h2, h3, h4, .inr ⟨rfl, .inl rfl⟩⟩
theorem rvg_err : ∀ (U : List Bool) (f k a acc er : Nat), Bt.rvg U f k a acc = .inl er → er ≠ 0
  | U, 0, k, a, acc, er, h => by
    unfold Bt.rvg at h
    injection h with h
    omega
  | U, f + 1, k, a, acc, er, h => by
    unfold Bt.rvg at h
    repeat' split at h
    all_goals first
      | (injection h with h; omega)
      | exact rvg_err U f _ _ _ er h
      | cases h
theorem rv_err {U : List Bool} {a er : Nat} (h : Bt.rv U a = .inl er) : er ≠ 0 := rvg_err U 10 0 a 0 er h
/-- The bits' reader's Signed. -/
theorem signed_c (lo hi : Nat) (w : World) (B at_ : Nat) (v : Value) (l : List UInt8) (h : Rd w B v at_ l lo hi) (hhi : hi ≤ w.heap.size) :
    Calls Tryd.prog 91 #[.pointer (some ⟨B, 0, none⟩)] w fun e w' => ∃ (t : Int) (er a : Nat), e = .returned (.tuple #[.int .i64 t, .int .u16 (er : Int)]) ∧ (-9223372036854775808 ≤ t ∧ t ≤ 9223372036854775807) ∧ Rd w' B v a l lo hi ∧ Gro B none w w' ∧
      ((er = 0 ∧ ∃ x, Bt.rv (Bt.unpack l) at_ = .inr (x, a) ∧ t = un x) ∨ (er ≠ 0 ∧ Bt.rv (Bt.unpack l) at_ = .inl er ∧ a = at_ ∧ t = 0)) := by
  refine (rsigned_any lo hi w B at_ v l h hhi).mono ?_
  intro e w' hp
  cases hr : Bt.rv (Bt.unpack l) at_ with
  | inl er =>
    rw [hr] at hp
    obtain ⟨h1, h2, h3⟩ := hp
    exact ⟨0, er, at_, h1, by decide, h2, h3, .inr ⟨rv_err hr, rfl, rfl, rfl⟩⟩
  | inr p =>
    obtain ⟨x, a⟩ := p
    rw [hr] at hp
    obtain ⟨h1, h2, h3⟩ := hp
    exact ⟨un x, 0, a, h1, Gz.un_fits (Bt.rv_ok hr).1, h2, h3, .inl ⟨rfl, x, rfl, rfl⟩⟩
/-- The bits' reader's Varint. -/
theorem varint_c (lo hi : Nat) (w : World) (B at_ : Nat) (v : Value) (l : List UInt8) (h : Rd w B v at_ l lo hi) (hhi : hi ≤ w.heap.size) :
    Calls Tryd.prog 93 #[.pointer (some ⟨B, 0, none⟩)] w fun e w' => ∃ (x er a : Nat), x < 18446744073709551616 ∧ e = .returned (.tuple #[.int .u64 (x : Int), .int .u16 (er : Int)]) ∧ Rd w' B v a l lo hi ∧ Gro B none w w' ∧
      ((er = 0 ∧ Bt.rv (Bt.unpack l) at_ = .inr (x, a)) ∨ (er ≠ 0 ∧ Bt.rv (Bt.unpack l) at_ = .inl er)) := by
  refine (rvarint_any lo hi w B at_ v l h hhi).mono ?_
  intro e w' hp
  cases hr : Bt.rv (Bt.unpack l) at_ with
  | inl er =>
    rw [hr] at hp
    obtain ⟨h1, h2, h3⟩ := hp
    exact ⟨0, er, at_, by decide, h1, h2, h3, .inr ⟨rv_err hr, rfl⟩⟩
  | inr p =>
    obtain ⟨x, a⟩ := p
    rw [hr] at hp
    obtain ⟨h1, h2, h3⟩ := hp
    exact ⟨x, 0, a, (Bt.rv_ok hr).1, h1, h2, h3, .inl ⟨rfl, rfl⟩⟩
end Go.Proofs.YtepjpdhmjchakaaDoor
