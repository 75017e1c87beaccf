/- NumOrder: the walk. -/
import Derived.Test.YtoodbdjmbicaeaaKno
namespace Go.Proofs.Ytoodbdjmbicaeaa.numOrder
open Go.RowKit
set_option maxRecDepth 8000
set_option maxHeartbeats 1000000

theorem of_wf64 {z : Int} (h : (Lit.int .u64 z).wf = true) : ∃ n : Nat, z = (n : Int) ∧ n < 2 ^ 64 := by
  have h1 : 0 ≤ z ∧ z ≤ 18446744073709551615 := by
    have := h; simp [Lit.wf, IntKind.min, IntKind.max, IntKind.signed, IntKind.bits] at this; omega
  exact ⟨z.toNat, by omega, by omega⟩

theorem one0 (a b c : Nat) (ha : a < 2 ^ 64) (hb : b < 2 ^ 64) (hc : c < 2 ^ 64) (w : World) (hx : ordV a b = 1) (hx' : ordV b a = -1) (hs : ordV a a = 0) (hab : ((a : Int) == (b : Int)) = false) (hk : cmpK a b = false) (hd : cmpC a b = 0) (na : nanW a = true) (nb : nanW b = true) :
    Kn 7 #[wd a, wd b, wd c] w (.bool true) := by
  go_enter Try.func7, Try.ntmps7
  go_wp2_with (first
    | (go_at_call 13; refine (kknown _).mono ?_; rintro e w1 ⟨rfl, n4, rfl⟩)
    | (go_at_call 20; refine (kisnan _ _).mono ?_; rintro e w1 ⟨rfl, rfl⟩)
    | (go_at_call 12; refine (kcmp _ _ _).mono ?_; rintro e w1 ⟨rfl, rfl⟩)
    | (go_at_call 32; refine (korder (by assumption) (by assumption) _).mono ?_; rintro e w1 ⟨rfl, rfl⟩))
  go_ret
  exact ⟨rfl, _, rfl⟩

theorem one1 (a b c : Nat) (ha : a < 2 ^ 64) (hb : b < 2 ^ 64) (hc : c < 2 ^ 64) (w : World) (hx : ordV a b = 1) (hx' : ordV b a = -1) (hs : ordV a a = 0) (hab : ((a : Int) == (b : Int)) = false) (hk : cmpK a b = false) (hd : cmpC a b = 0) (na : nanW a = false) (nb : nanW b = true) :
    Kn 7 #[wd a, wd b, wd c] w (.bool true) := by
  go_enter Try.func7, Try.ntmps7
  go_wp2_with (first
    | (go_at_call 13; refine (kknown _).mono ?_; rintro e w1 ⟨rfl, n4, rfl⟩)
    | (go_at_call 20; refine (kisnan _ _).mono ?_; rintro e w1 ⟨rfl, rfl⟩)
    | (go_at_call 12; refine (kcmp _ _ _).mono ?_; rintro e w1 ⟨rfl, rfl⟩)
    | (go_at_call 32; refine (korder (by assumption) (by assumption) _).mono ?_; rintro e w1 ⟨rfl, rfl⟩))
  go_ret
  exact ⟨rfl, _, rfl⟩

theorem one2 (a b c : Nat) (ha : a < 2 ^ 64) (hb : b < 2 ^ 64) (hc : c < 2 ^ 64) (w : World) (hx : ordV a b = 1) (hx' : ordV b a = -1) (hs : ordV a a = 0) (hab : ((a : Int) == (b : Int)) = false) (hk : cmpK a b = true) (hd : cmpC a b = 0) (na : nanW a = false) (nb : nanW b = false) :
    Kn 7 #[wd a, wd b, wd c] w (.bool true) := by
  go_enter Try.func7, Try.ntmps7
  go_wp2_with (first
    | (go_at_call 13; refine (kknown _).mono ?_; rintro e w1 ⟨rfl, n4, rfl⟩)
    | (go_at_call 20; refine (kisnan _ _).mono ?_; rintro e w1 ⟨rfl, rfl⟩)
    | (go_at_call 12; refine (kcmp _ _ _).mono ?_; rintro e w1 ⟨rfl, rfl⟩)
    | (go_at_call 32; refine (korder (by assumption) (by assumption) _).mono ?_; rintro e w1 ⟨rfl, rfl⟩))
  go_ret
  exact ⟨rfl, _, rfl⟩

theorem one3 (a b c : Nat) (ha : a < 2 ^ 64) (hb : b < 2 ^ 64) (hc : c < 2 ^ 64) (w : World) (hx : ordV a b = 1) (hx' : ordV b a = -1) (hs : ordV a a = 0) (hab : ((a : Int) == (b : Int)) = false) (hk : cmpK a b = true) (hd : cmpC a b = 1) (na : nanW a = false) (nb : nanW b = false) :
    Kn 7 #[wd a, wd b, wd c] w (.bool true) := by
  go_enter Try.func7, Try.ntmps7
  go_wp2_with (first
    | (go_at_call 13; refine (kknown _).mono ?_; rintro e w1 ⟨rfl, n4, rfl⟩)
    | (go_at_call 20; refine (kisnan _ _).mono ?_; rintro e w1 ⟨rfl, rfl⟩)
    | (go_at_call 12; refine (kcmp _ _ _).mono ?_; rintro e w1 ⟨rfl, rfl⟩)
    | (go_at_call 32; refine (korder (by assumption) (by assumption) _).mono ?_; rintro e w1 ⟨rfl, rfl⟩))
  go_ret
  exact ⟨rfl, _, rfl⟩

theorem lessUp0 (a b c : Nat) (ha : a < 2 ^ 64) (hb : b < 2 ^ 64) (hc : c < 2 ^ 64) (w : World) (hx : ordV a b = -1) (hx' : ordV b a = 1) (hs : ordV a a = 0) (hab : ((a : Int) == (b : Int)) = false) (hy : 0 < ordV b c) (hk : cmpK a b = false) (hd : cmpC a b = 0) (na : nanW a = true) (nb : nanW b = true) :
    Kn 7 #[wd a, wd b, wd c] w (.bool true) := by
  go_enter Try.func7, Try.ntmps7
  go_wp2_with (first
    | (go_at_call 13; refine (kknown _).mono ?_; rintro e w1 ⟨rfl, n4, rfl⟩)
    | (go_at_call 20; refine (kisnan _ _).mono ?_; rintro e w1 ⟨rfl, rfl⟩)
    | (go_at_call 12; refine (kcmp _ _ _).mono ?_; rintro e w1 ⟨rfl, rfl⟩)
    | (go_at_call 32; refine (korder (by assumption) (by assumption) _).mono ?_; rintro e w1 ⟨rfl, rfl⟩))
  go_ret
  exact ⟨rfl, _, rfl⟩

theorem lessUp1 (a b c : Nat) (ha : a < 2 ^ 64) (hb : b < 2 ^ 64) (hc : c < 2 ^ 64) (w : World) (hx : ordV a b = -1) (hx' : ordV b a = 1) (hs : ordV a a = 0) (hab : ((a : Int) == (b : Int)) = false) (hy : 0 < ordV b c) (hk : cmpK a b = false) (hd : cmpC a b = 0) (na : nanW a = true) (nb : nanW b = false) :
    Kn 7 #[wd a, wd b, wd c] w (.bool true) := by
  go_enter Try.func7, Try.ntmps7
  go_wp2_with (first
    | (go_at_call 13; refine (kknown _).mono ?_; rintro e w1 ⟨rfl, n4, rfl⟩)
    | (go_at_call 20; refine (kisnan _ _).mono ?_; rintro e w1 ⟨rfl, rfl⟩)
    | (go_at_call 12; refine (kcmp _ _ _).mono ?_; rintro e w1 ⟨rfl, rfl⟩)
    | (go_at_call 32; refine (korder (by assumption) (by assumption) _).mono ?_; rintro e w1 ⟨rfl, rfl⟩))
  go_ret
  exact ⟨rfl, _, rfl⟩

theorem lessUp2 (a b c : Nat) (ha : a < 2 ^ 64) (hb : b < 2 ^ 64) (hc : c < 2 ^ 64) (w : World) (hx : ordV a b = -1) (hx' : ordV b a = 1) (hs : ordV a a = 0) (hab : ((a : Int) == (b : Int)) = false) (hy : 0 < ordV b c) (hk : cmpK a b = false) (hd : cmpC a b = 0) (na : nanW a = false) (nb : nanW b = true) :
    Kn 7 #[wd a, wd b, wd c] w (.bool true) := by
  go_enter Try.func7, Try.ntmps7
  go_wp2_with (first
    | (go_at_call 13; refine (kknown _).mono ?_; rintro e w1 ⟨rfl, n4, rfl⟩)
    | (go_at_call 20; refine (kisnan _ _).mono ?_; rintro e w1 ⟨rfl, rfl⟩)
    | (go_at_call 12; refine (kcmp _ _ _).mono ?_; rintro e w1 ⟨rfl, rfl⟩)
    | (go_at_call 32; refine (korder (by assumption) (by assumption) _).mono ?_; rintro e w1 ⟨rfl, rfl⟩))
  go_ret
  exact ⟨rfl, _, rfl⟩

theorem lessUp3 (a b c : Nat) (ha : a < 2 ^ 64) (hb : b < 2 ^ 64) (hc : c < 2 ^ 64) (w : World) (hx : ordV a b = -1) (hx' : ordV b a = 1) (hs : ordV a a = 0) (hab : ((a : Int) == (b : Int)) = false) (hy : 0 < ordV b c) (hk : cmpK a b = true) (hd : cmpC a b = 0) (na : nanW a = false) (nb : nanW b = false) :
    Kn 7 #[wd a, wd b, wd c] w (.bool true) := by
  go_enter Try.func7, Try.ntmps7
  go_wp2_with (first
    | (go_at_call 13; refine (kknown _).mono ?_; rintro e w1 ⟨rfl, n4, rfl⟩)
    | (go_at_call 20; refine (kisnan _ _).mono ?_; rintro e w1 ⟨rfl, rfl⟩)
    | (go_at_call 12; refine (kcmp _ _ _).mono ?_; rintro e w1 ⟨rfl, rfl⟩)
    | (go_at_call 32; refine (korder (by assumption) (by assumption) _).mono ?_; rintro e w1 ⟨rfl, rfl⟩))
  go_ret
  exact ⟨rfl, _, rfl⟩

theorem lessUp4 (a b c : Nat) (ha : a < 2 ^ 64) (hb : b < 2 ^ 64) (hc : c < 2 ^ 64) (w : World) (hx : ordV a b = -1) (hx' : ordV b a = 1) (hs : ordV a a = 0) (hab : ((a : Int) == (b : Int)) = false) (hy : 0 < ordV b c) (hk : cmpK a b = true) (hd : cmpC a b = -1) (na : nanW a = false) (nb : nanW b = false) :
    Kn 7 #[wd a, wd b, wd c] w (.bool true) := by
  go_enter Try.func7, Try.ntmps7
  go_wp2_with (first
    | (go_at_call 13; refine (kknown _).mono ?_; rintro e w1 ⟨rfl, n4, rfl⟩)
    | (go_at_call 20; refine (kisnan _ _).mono ?_; rintro e w1 ⟨rfl, rfl⟩)
    | (go_at_call 12; refine (kcmp _ _ _).mono ?_; rintro e w1 ⟨rfl, rfl⟩)
    | (go_at_call 32; refine (korder (by assumption) (by assumption) _).mono ?_; rintro e w1 ⟨rfl, rfl⟩))
  go_ret
  exact ⟨rfl, _, rfl⟩

theorem less0 (a b c : Nat) (ha : a < 2 ^ 64) (hb : b < 2 ^ 64) (hc : c < 2 ^ 64) (w : World) (hx : ordV a b = -1) (hx' : ordV b a = 1) (hs : ordV a a = 0) (hab : ((a : Int) == (b : Int)) = false) (hy : ¬ 0 < ordV b c) (hz : ordV a c = -1) (hk : cmpK a b = false) (hd : cmpC a b = 0) (na : nanW a = true) (nb : nanW b = true) :
    Kn 7 #[wd a, wd b, wd c] w (.bool true) := by
  go_enter Try.func7, Try.ntmps7
  go_wp2_with (first
    | (go_at_call 13; refine (kknown _).mono ?_; rintro e w1 ⟨rfl, n4, rfl⟩)
    | (go_at_call 20; refine (kisnan _ _).mono ?_; rintro e w1 ⟨rfl, rfl⟩)
    | (go_at_call 12; refine (kcmp _ _ _).mono ?_; rintro e w1 ⟨rfl, rfl⟩)
    | (go_at_call 32; refine (korder (by assumption) (by assumption) _).mono ?_; rintro e w1 ⟨rfl, rfl⟩))
  go_ret
  exact ⟨rfl, _, rfl⟩

theorem less1 (a b c : Nat) (ha : a < 2 ^ 64) (hb : b < 2 ^ 64) (hc : c < 2 ^ 64) (w : World) (hx : ordV a b = -1) (hx' : ordV b a = 1) (hs : ordV a a = 0) (hab : ((a : Int) == (b : Int)) = false) (hy : ¬ 0 < ordV b c) (hz : ordV a c = -1) (hk : cmpK a b = false) (hd : cmpC a b = 0) (na : nanW a = true) (nb : nanW b = false) :
    Kn 7 #[wd a, wd b, wd c] w (.bool true) := by
  go_enter Try.func7, Try.ntmps7
  go_wp2_with (first
    | (go_at_call 13; refine (kknown _).mono ?_; rintro e w1 ⟨rfl, n4, rfl⟩)
    | (go_at_call 20; refine (kisnan _ _).mono ?_; rintro e w1 ⟨rfl, rfl⟩)
    | (go_at_call 12; refine (kcmp _ _ _).mono ?_; rintro e w1 ⟨rfl, rfl⟩)
    | (go_at_call 32; refine (korder (by assumption) (by assumption) _).mono ?_; rintro e w1 ⟨rfl, rfl⟩))
  go_ret
  exact ⟨rfl, _, rfl⟩

theorem less2 (a b c : Nat) (ha : a < 2 ^ 64) (hb : b < 2 ^ 64) (hc : c < 2 ^ 64) (w : World) (hx : ordV a b = -1) (hx' : ordV b a = 1) (hs : ordV a a = 0) (hab : ((a : Int) == (b : Int)) = false) (hy : ¬ 0 < ordV b c) (hz : ordV a c = -1) (hk : cmpK a b = false) (hd : cmpC a b = 0) (na : nanW a = false) (nb : nanW b = true) :
    Kn 7 #[wd a, wd b, wd c] w (.bool true) := by
  go_enter Try.func7, Try.ntmps7
  go_wp2_with (first
    | (go_at_call 13; refine (kknown _).mono ?_; rintro e w1 ⟨rfl, n4, rfl⟩)
    | (go_at_call 20; refine (kisnan _ _).mono ?_; rintro e w1 ⟨rfl, rfl⟩)
    | (go_at_call 12; refine (kcmp _ _ _).mono ?_; rintro e w1 ⟨rfl, rfl⟩)
    | (go_at_call 32; refine (korder (by assumption) (by assumption) _).mono ?_; rintro e w1 ⟨rfl, rfl⟩))
  go_ret
  exact ⟨rfl, _, rfl⟩

theorem less3 (a b c : Nat) (ha : a < 2 ^ 64) (hb : b < 2 ^ 64) (hc : c < 2 ^ 64) (w : World) (hx : ordV a b = -1) (hx' : ordV b a = 1) (hs : ordV a a = 0) (hab : ((a : Int) == (b : Int)) = false) (hy : ¬ 0 < ordV b c) (hz : ordV a c = -1) (hk : cmpK a b = true) (hd : cmpC a b = 0) (na : nanW a = false) (nb : nanW b = false) :
    Kn 7 #[wd a, wd b, wd c] w (.bool true) := by
  go_enter Try.func7, Try.ntmps7
  go_wp2_with (first
    | (go_at_call 13; refine (kknown _).mono ?_; rintro e w1 ⟨rfl, n4, rfl⟩)
    | (go_at_call 20; refine (kisnan _ _).mono ?_; rintro e w1 ⟨rfl, rfl⟩)
    | (go_at_call 12; refine (kcmp _ _ _).mono ?_; rintro e w1 ⟨rfl, rfl⟩)
    | (go_at_call 32; refine (korder (by assumption) (by assumption) _).mono ?_; rintro e w1 ⟨rfl, rfl⟩))
  go_ret
  exact ⟨rfl, _, rfl⟩

theorem less4 (a b c : Nat) (ha : a < 2 ^ 64) (hb : b < 2 ^ 64) (hc : c < 2 ^ 64) (w : World) (hx : ordV a b = -1) (hx' : ordV b a = 1) (hs : ordV a a = 0) (hab : ((a : Int) == (b : Int)) = false) (hy : ¬ 0 < ordV b c) (hz : ordV a c = -1) (hk : cmpK a b = true) (hd : cmpC a b = -1) (na : nanW a = false) (nb : nanW b = false) :
    Kn 7 #[wd a, wd b, wd c] w (.bool true) := by
  go_enter Try.func7, Try.ntmps7
  go_wp2_with (first
    | (go_at_call 13; refine (kknown _).mono ?_; rintro e w1 ⟨rfl, n4, rfl⟩)
    | (go_at_call 20; refine (kisnan _ _).mono ?_; rintro e w1 ⟨rfl, rfl⟩)
    | (go_at_call 12; refine (kcmp _ _ _).mono ?_; rintro e w1 ⟨rfl, rfl⟩)
    | (go_at_call 32; refine (korder (by assumption) (by assumption) _).mono ?_; rintro e w1 ⟨rfl, rfl⟩))
  go_ret
  exact ⟨rfl, _, rfl⟩

theorem sameUp0 (a c : Nat) (ha : a < 2 ^ 64) (hc : c < 2 ^ 64) (w : World) (hs : ordV a a = 0) (hy : 0 < ordV a c) (hk : cmpK a a = false) (hd : cmpC a a = 0) (na : nanW a = true) :
    Kn 7 #[wd a, wd a, wd c] w (.bool true) := by
  go_enter Try.func7, Try.ntmps7
  go_wp2_with (first
    | (go_at_call 13; refine (kknown _).mono ?_; rintro e w1 ⟨rfl, n4, rfl⟩)
    | (go_at_call 20; refine (kisnan _ _).mono ?_; rintro e w1 ⟨rfl, rfl⟩)
    | (go_at_call 12; refine (kcmp _ _ _).mono ?_; rintro e w1 ⟨rfl, rfl⟩)
    | (go_at_call 32; refine (korder (by assumption) (by assumption) _).mono ?_; rintro e w1 ⟨rfl, rfl⟩))
  go_ret
  exact ⟨rfl, _, rfl⟩

theorem sameUp1 (a c : Nat) (ha : a < 2 ^ 64) (hc : c < 2 ^ 64) (w : World) (hs : ordV a a = 0) (hy : 0 < ordV a c) (hk : cmpK a a = true) (hd : cmpC a a = 0) (na : nanW a = false) :
    Kn 7 #[wd a, wd a, wd c] w (.bool true) := by
  go_enter Try.func7, Try.ntmps7
  go_wp2_with (first
    | (go_at_call 13; refine (kknown _).mono ?_; rintro e w1 ⟨rfl, n4, rfl⟩)
    | (go_at_call 20; refine (kisnan _ _).mono ?_; rintro e w1 ⟨rfl, rfl⟩)
    | (go_at_call 12; refine (kcmp _ _ _).mono ?_; rintro e w1 ⟨rfl, rfl⟩)
    | (go_at_call 32; refine (korder (by assumption) (by assumption) _).mono ?_; rintro e w1 ⟨rfl, rfl⟩))
  go_ret
  exact ⟨rfl, _, rfl⟩

theorem same00 (a c : Nat) (ha : a < 2 ^ 64) (hc : c < 2 ^ 64) (w : World) (hs : ordV a a = 0) (hy : ordV a c = 0) (hk : cmpK a a = false) (hd : cmpC a a = 0) (na : nanW a = true) :
    Kn 7 #[wd a, wd a, wd c] w (.bool true) := by
  go_enter Try.func7, Try.ntmps7
  go_wp2_with (first
    | (go_at_call 13; refine (kknown _).mono ?_; rintro e w1 ⟨rfl, n4, rfl⟩)
    | (go_at_call 20; refine (kisnan _ _).mono ?_; rintro e w1 ⟨rfl, rfl⟩)
    | (go_at_call 12; refine (kcmp _ _ _).mono ?_; rintro e w1 ⟨rfl, rfl⟩)
    | (go_at_call 32; refine (korder (by assumption) (by assumption) _).mono ?_; rintro e w1 ⟨rfl, rfl⟩))
  go_ret
  exact ⟨rfl, _, rfl⟩

theorem same01 (a c : Nat) (ha : a < 2 ^ 64) (hc : c < 2 ^ 64) (w : World) (hs : ordV a a = 0) (hy : ordV a c = 0) (hk : cmpK a a = true) (hd : cmpC a a = 0) (na : nanW a = false) :
    Kn 7 #[wd a, wd a, wd c] w (.bool true) := by
  go_enter Try.func7, Try.ntmps7
  go_wp2_with (first
    | (go_at_call 13; refine (kknown _).mono ?_; rintro e w1 ⟨rfl, n4, rfl⟩)
    | (go_at_call 20; refine (kisnan _ _).mono ?_; rintro e w1 ⟨rfl, rfl⟩)
    | (go_at_call 12; refine (kcmp _ _ _).mono ?_; rintro e w1 ⟨rfl, rfl⟩)
    | (go_at_call 32; refine (korder (by assumption) (by assumption) _).mono ?_; rintro e w1 ⟨rfl, rfl⟩))
  go_ret
  exact ⟨rfl, _, rfl⟩

theorem sameLess0 (a c : Nat) (ha : a < 2 ^ 64) (hc : c < 2 ^ 64) (w : World) (hs : ordV a a = 0) (hy : ordV a c = -1) (hk : cmpK a a = false) (hd : cmpC a a = 0) (na : nanW a = true) :
    Kn 7 #[wd a, wd a, wd c] w (.bool true) := by
  go_enter Try.func7, Try.ntmps7
  go_wp2_with (first
    | (go_at_call 13; refine (kknown _).mono ?_; rintro e w1 ⟨rfl, n4, rfl⟩)
    | (go_at_call 20; refine (kisnan _ _).mono ?_; rintro e w1 ⟨rfl, rfl⟩)
    | (go_at_call 12; refine (kcmp _ _ _).mono ?_; rintro e w1 ⟨rfl, rfl⟩)
    | (go_at_call 32; refine (korder (by assumption) (by assumption) _).mono ?_; rintro e w1 ⟨rfl, rfl⟩))
  go_ret
  exact ⟨rfl, _, rfl⟩

theorem sameLess1 (a c : Nat) (ha : a < 2 ^ 64) (hc : c < 2 ^ 64) (w : World) (hs : ordV a a = 0) (hy : ordV a c = -1) (hk : cmpK a a = true) (hd : cmpC a a = 0) (na : nanW a = false) :
    Kn 7 #[wd a, wd a, wd c] w (.bool true) := by
  go_enter Try.func7, Try.ntmps7
  go_wp2_with (first
    | (go_at_call 13; refine (kknown _).mono ?_; rintro e w1 ⟨rfl, n4, rfl⟩)
    | (go_at_call 20; refine (kisnan _ _).mono ?_; rintro e w1 ⟨rfl, rfl⟩)
    | (go_at_call 12; refine (kcmp _ _ _).mono ?_; rintro e w1 ⟨rfl, rfl⟩)
    | (go_at_call 32; refine (korder (by assumption) (by assumption) _).mono ?_; rintro e w1 ⟨rfl, rfl⟩))
  go_ret
  exact ⟨rfl, _, rfl⟩

theorem walkN (a b c : Nat) (ha : a < 2 ^ 64) (hb : b < 2 ^ 64) (hc : c < 2 ^ 64) (w : World) :
    Kn 7 #[wd a, wd b, wd c] w (.bool true) := by
  obtain ⟨l1, l2, l3, l4, l5, l6, l7, l8, l9⟩ := order_law ha hb hc
  obtain ⟨_, _, _, b4, b5, _, _, _, _⟩ := order_law hb hc hc
  obtain ⟨_, _, _, c4, c5, _, _, _, _⟩ := order_law ha hc hc
  by_cases hab : a = b
  · subst hab
    have hx := l3
    have hd : cmpC a a = 0 := by omega
    cases na : nanW a
    · have hk : cmpK a a = true := by rw [l7, na]; rfl
      rcases (by omega : 0 < ordV a c ∨ ordV a c = 0 ∨ ordV a c = -1) with h | h | h
      · exact sameUp1 a c ha hc w l3 h hk hd na
      · exact same01 a c ha hc w l3 h hk hd na
      · exact sameLess1 a c ha hc w l3 h hk hd na
    · have hk : cmpK a a = false := by rw [l7, na]; rfl
      rcases (by omega : 0 < ordV a c ∨ ordV a c = 0 ∨ ordV a c = -1) with h | h | h
      · exact sameUp0 a c ha hc w l3 h hk hd na
      · exact same00 a c ha hc w l3 h hk hd na
      · exact sameLess0 a c ha hc w l3 h hk hd na
  · have hne : ¬ ordV a b = 0 := fun h => hab (l2.1 h)
    have hab' : ((a : Int) == (b : Int)) = false := by simpa using fun h : (a : Int) = b => hab (by omega)
    rcases (by omega : ordV a b = 1 ∨ (ordV a b = -1 ∧ 0 < ordV b c) ∨ (ordV a b = -1 ∧ ¬ 0 < ordV b c ∧ ordV a c = -1)) with h | ⟨h, h'⟩ | ⟨h, h', h''⟩
    · have hx' : ordV b a = -1 := by omega
      cases na : nanW a <;> cases nb : nanW b
      · have hk : cmpK a b = true := by rw [l7, na, nb]; rfl
        rcases (by omega : cmpC a b = 0 ∨ cmpC a b = 1) with hd | hd
        · exact one2 a b c ha hb hc w h hx' l3 hab' hk hd na nb
        · exact one3 a b c ha hb hc w h hx' l3 hab' hk hd na nb
      · have hk : cmpK a b = false := by rw [l7, na, nb]; rfl
        have hd : cmpC a b = 0 := (cmp_nan (by rw [na, nb]; simp)).1
        exact one1 a b c ha hb hc w h hx' l3 hab' hk hd na nb
      · have := l9 na nb; omega
      · have hk : cmpK a b = false := by rw [l7, na, nb]; rfl
        have hd : cmpC a b = 0 := (cmp_nan (by rw [na, nb]; simp)).1
        exact one0 a b c ha hb hc w h hx' l3 hab' hk hd na nb
    · have hx' : ordV b a = 1 := by omega
      cases na : nanW a <;> cases nb : nanW b
      · have hk : cmpK a b = true := by rw [l7, na, nb]; rfl
        rcases (by omega : cmpC a b = 0 ∨ cmpC a b = -1) with hd | hd
        · exact lessUp3 a b c ha hb hc w h hx' l3 hab' h' hk hd na nb
        · exact lessUp4 a b c ha hb hc w h hx' l3 hab' h' hk hd na nb
      · have hk : cmpK a b = false := by rw [l7, na, nb]; rfl
        have hd : cmpC a b = 0 := (cmp_nan (by rw [na, nb]; simp)).1
        exact lessUp2 a b c ha hb hc w h hx' l3 hab' h' hk hd na nb
      · have hk : cmpK a b = false := by rw [l7, na, nb]; rfl
        have hd : cmpC a b = 0 := (cmp_nan (by rw [na, nb]; simp)).1
        exact lessUp1 a b c ha hb hc w h hx' l3 hab' h' hk hd na nb
      · have hk : cmpK a b = false := by rw [l7, na, nb]; rfl
        have hd : cmpC a b = 0 := (cmp_nan (by rw [na, nb]; simp)).1
        exact lessUp0 a b c ha hb hc w h hx' l3 hab' h' hk hd na nb
    · have hx' : ordV b a = 1 := by omega
      cases na : nanW a <;> cases nb : nanW b
      · have hk : cmpK a b = true := by rw [l7, na, nb]; rfl
        rcases (by omega : cmpC a b = 0 ∨ cmpC a b = -1) with hd | hd
        · exact less3 a b c ha hb hc w h hx' l3 hab' h' h'' hk hd na nb
        · exact less4 a b c ha hb hc w h hx' l3 hab' h' h'' hk hd na nb
      · have hk : cmpK a b = false := by rw [l7, na, nb]; rfl
        have hd : cmpC a b = 0 := (cmp_nan (by rw [na, nb]; simp)).1
        exact less2 a b c ha hb hc w h hx' l3 hab' h' h'' hk hd na nb
      · have hk : cmpK a b = false := by rw [l7, na, nb]; rfl
        have hd : cmpC a b = 0 := (cmp_nan (by rw [na, nb]; simp)).1
        exact less1 a b c ha hb hc w h hx' l3 hab' h' h'' hk hd na nb
      · have hk : cmpK a b = false := by rw [l7, na, nb]; rfl
        have hd : cmpC a b = 0 := (cmp_nan (by rw [na, nb]; simp)).1
        exact less0 a b c ha hb hc w h hx' l3 hab' h' h'' hk hd na nb

theorem walk (a0 a1 a2 : Int) (w : World) (w0 : (Lit.int .u64 a0).wf = true) (w1 : (Lit.int .u64 a1).wf = true) (w2 : (Lit.int .u64 a2).wf = true) :
    Calls Try.prog 7 #[.int .u64 a0, .int .u64 a1, .int .u64 a2] w fun e w' => e = .returned (.bool true) ∧ Below w.heap.size w w' := by
  obtain ⟨a, rfl, ha⟩ := of_wf64 w0
  obtain ⟨b, rfl, hb⟩ := of_wf64 w1
  obtain ⟨c, rfl, hc⟩ := of_wf64 w2
  refine (walkN a b c ha hb hc w).mono ?_
  rintro e w' ⟨rfl, n, rfl⟩
  exact ⟨rfl, rfl, rfl, rfl, Nat.le_refl _, fun _ _ => rfl⟩
end Go.Proofs.Ytoodbdjmbicaeaa.numOrder
