/- LentBytes, WholeBytes, SpoilBytes: what they do. -/
import Derived.Test.YtepjpdhmjchakaaDoorWriter2
namespace Go.Proofs.YtepjpdhmjchakaaDoor
open Go.RowKit

set_option maxRecDepth 100000 in
theorem lent_any (lo hi : Nat) (w : World) (v : Value) (l : List UInt8) (hv : Sl lo hi f8 w v l) (hhi : hi ≤ w.heap.size) :
    Calls Tryd.prog 66 #[v] w fun e w' => ∃ g, e = .returned (.slice (some ⟨g, 0, none⟩) l.length (l.length + 2)) ∧ w.heap.size ≤ g ∧
      w'.heap[g]? = some (.cells (l.map f8 ++ [Value.int .u8 91, Value.int .u8 92]).toArray 5 (0, 0)) ∧ Below w.heap.size w w' := by
  obtain ⟨ao, cap, rfl, hv⟩ := hv
  have hl := hv.len
  obtain ⟨i0, hi0, hz0, hz1, hz2⟩ := info_parts info5
  go_enter Tryd.func66, Tryd.ntmps66
  go_wp2_with (first
    | (at_make; go_loud (refine wpList_make_own _ rfl _ _ 71 rfl w.heap.size 5 i0 (.int .u8 0) 1 Tryd.underlying71 hi0 hz0 hz1 .i64 .i64 _ (l.length + 2) rfl rfl (by simp) (by rw [hz2]; omega) (by unfold maxLen; omega) (Nat.le_refl _) ?_); intro w1 hown1 hgrow1)
    | (at_builtin; refine wpList_append_fits_any _ rfl (.tmp 8) (.tmp 9) 71 rfl w.heap.size 5 i0 1 Tryd.underlying71 hi0 hz1 _ 0 (l.length + 2) _ rfl hown1 ao l.length cap (l.map f8) rfl (by simp) hv.none (hv.below ((Below.refl _ _).grown hgrow1 (Nat.le_refl _) (by simp)) hhi).news (f8_one l) (by omega) ?_; intro w2 hown2 hgrow2; simp only [Nat.zero_add, List.nil_append] at hown2)
    | (at_builtin; refine wpList_append_fits _ rfl (.tmp 11) (.tmp 12) 71 rfl w.heap.size 5 i0 1 Tryd.underlying71 hi0 hz1 _ l.length (l.length + 2) _ rfl (hown2.alloc _) ⟨w2.heap.size, 0, none⟩ 2 2 [.int .u8 91, .int .u8 92] rfl rfl (news_alloc w2 [.int .u8 91, .int .u8 92] 5) (by simp [Value.oneCell']) (by omega) ?_; intro w3 hown3 hgrow3)
    )
  go_ret
  obtain ⟨_, hg⟩ := own_full hown3
  have hb1 := (Below.refl w.heap.size w).grown hgrow1 (Nat.le_refl _) (by simp)
  have hb2 := hb1.grown hgrow2 hb1.size (by simp)
  refine ⟨w.heap.size, rfl, Nat.le_refl _, hg, ?_⟩
  exact (hb2.alloc hb2.size _).grown hgrow3 (by have := hb2.size; simp; omega) (by simp)

theorem lent_sl {w : World} {g : Nat} {l : List UInt8} (hl : l.length ≤ 140737488355328) (hg : w.heap[g]? = some (.cells (l.map f8 ++ [Value.int .u8 91, Value.int .u8 92]).toArray 5 (0, 0))) :
    Sl g (g + 1) f8 w (.slice (some ⟨g, 0, none⟩) l.length (l.length + 2)) l := by
  refine ⟨_, _, rfl, hl, (fun h => by cases h), fun _ => ⟨g, 0, rfl, Nat.le_refl _, Nat.lt_succ_self _, fun j hj => ?_⟩, by omega⟩
  rw [cell_of_row _ _ _ _ _ _ hg]
  simp [List.getElem?_append_left, hj]

theorem whole_any (lo hi g : Nat) (w : World) (v' : Value) (l l' : List UInt8) (hl : l.length ≤ 140737488355328) (hg : w.heap[g]? = some (.cells (l.map f8 ++ [Value.int .u8 91, Value.int .u8 92]).toArray 5 (0, 0)))
    (hv' : Sl lo hi f8 w v' l') :
    Calls Tryd.prog 69 #[.slice (some ⟨g, 0, none⟩) l.length (l.length + 2), v'] w fun e w' => e = .returned (.bool (sameB l l')) ∧ ∃ n, w' = w.drewN n := by
  have hs := same_any g (g + 1) lo hi w _ v' l l' (lent_sl hl hg) hv'
  have c0 : w.cell? ⟨g, l.length, none⟩ = some (.int .u8 91) := by rw [cell_of_row _ _ _ _ _ _ hg]; simp
  have c1 : w.cell? ⟨g, l.length + 1, none⟩ = some (.int .u8 92) := by rw [cell_of_row _ _ _ _ _ _ hg]; simp
  have HS := Lib.hid hs
  clear hs hg
  go_enter Tryd.func69, Tryd.ntmps69
  go_wp2_with (go_at_call 32; refine HS.out.mono ?_; rintro e w1 ⟨rfl, n, rfl⟩)
  go_ret
  exact ⟨rfl, n, rfl⟩


end Go.Proofs.YtepjpdhmjchakaaDoor
