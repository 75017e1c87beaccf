import Derived.Test.YtepjpdhmjchakaaGreatDoorRows
import Derived.WalkKit
import Derived.ProofKit
import Derived.LaidMore
import Derived.OpenShut
import Derived.Stop.Joined
import Derived.ShutString
import Derived.ChangeOld
import Derived.Below
import Derived.SizedLaws
import Derived.SevenTiedAt
import Derived.Test.YtepjpdhmjchakaaGreatDoorTie
import Derived.Test.YtepjpdhmjchakaaGreatDoorCards
import Derived.Test.YtepjpdhmjchakaaGreatDoorQ26
import Derived.Test.YtepjpdhmjchakaaGreatDoorQ25
/- The law GorillaLists returns true for every input and leaves its arguments as they were; its tied card. Conditions of the row: the library's table of trailing noughts and the document's list of buckets read as the program's text lays them (the card ties them to that text). -/
namespace Go.Proofs.YtepjpdhmjchakaaGreatDoor.gorillaLists
open Go.ChangeShapes Go.WideShapes Go.ChangeAt Go.RowKit
set_option linter.unusedVariables false

/-- The row's list. -/
def laid1 : List (String × DataW Unit) := [("math/bits.deBruijn64tab", Rows.laid_math_bits_deBruijn64tab), ("barograph/barographref10.buckets", Rows.laid_barograph_barographref10_buckets)]

theorem own : ownKnob Tryz.prog.godebug = none := by kernel_rfl
theorem laidOut : laidOutB Tryz.prog = true := by kernel_rfl
theorem gTab : Tryz.prog.globalNamed "math/bits.deBruijn64tab" = some 1 := by kernel_rfl
theorem tTab : (Tryz.prog.globals[1]?).map (·.type) = some 235 := by kernel_rfl
theorem door_met (os : Os) (args : Array Value) : laidMetH Tryz.prog laid1 ((World.doorLaid Tryz.prog 22 os).forCall (fun _ _ => 0) ⟨#[], args, []⟩).memory :=
  laidMetH_of_parts3 (fuel := 8) (laidMet_of_run' 8 (by kernel_rfl) (by kernel_rfl)) (by kernel_rfl) (by kernel_rfl)

theorem laid_eq : (Rows.laid_math_bits_deBruijn64tab : DataW Unit) = .agg (Lib.deBruijn64tab.map fun (n : Nat) => .lit (.int .u8 (n : Int))) := by rfl
theorem tab_len : Lib.deBruijn64tab.length = 64 := by decide +kernel

theorem gBk : Tryz.prog.globalNamed "barograph/barographref10.buckets" = some 0 := by kernel_rfl
theorem tBk : (Tryz.prog.globals[0]?).map (·.type) = some 43 := by kernel_rfl
theorem undRows : Tryz.prog.underlying 43 = some (.slice 157) := by kernel_rfl
theorem undRow : Tryz.prog.underlying 157 = some (.slice 2) := by kernel_rfl
/-- A list of numbers, read. -/
theorem row_of {W : World} {v : Value} {p : List MemPlace} {f : Nat} (vals : List Int) (h : DataW.trod (fun _ => ()) Tryz.prog W 0 (fun _ => true) false f 157 [v] = some (.slice (vals.map fun x => .lit (.int .i64 x)) [], p)) (hne : 0 < vals.length) :
    ∃ b o c, v = .slice (some ⟨b, o, none⟩) vals.length c ∧ b < W.heap.size ∧ ∀ j (hj : j < vals.length), W.cell? ⟨b, o + j, none⟩ = some (.int .i64 vals[j]) := by
  have c1 : Tryz.prog.cellsOf 2 = 1 := by kernel_rfl
  rcases Go.Deep.open_slice1 undRow c1 h with ⟨_, h0⟩ | ⟨a, len, cap, m, n, V, D, Pl, hcs, hb, hl, hm, hmm, hx, hel⟩
  · injection h0 with h0
    cases h0
  · injection hcs with hv
    subst hv
    injection hx with hd _
    injection hd with hd _
    have hlen : len = vals.length := by have := congrArg List.length hd; simpa using this.symm
    subst hlen
    have hmc : m = cap := by rw [hmm]; rfl
    have key : ∀ j (hj : j < vals.length), W.cell? (a.add j) = some (.int .i64 vals[j]) := fun j hj => by
      obtain ⟨h1, h2⟩ := hel j (by omega)
      obtain ⟨k, e1, e2, _⟩ := DataW.trod_int Tryz.underlying2 h2
      have h3 := congrArg (fun l : List (DataW Unit) => l[j]?) hd
      simp [hj] at h3
      rw [← h3] at e2
      have e4 := congrArg Prod.fst e2
      simp only [DataW.lit.injEq, Lit.int.injEq, true_and] at e4
      have e3 : V j = .int .i64 k := by simpa using e1
      rw [h1, e3, e4]
    obtain ⟨b, off, sp⟩ := a
    obtain rfl : sp = none := by
      have := World.cell?_spot (key 0 hne)
      simpa [Addr.add] using this
    refine ⟨b, off, cap, rfl, ?_, fun j hj => ?_⟩
    · have := block_lt_of_cell (key 0 hne)
      simpa [Addr.add] using this
    · have := key j hj
      rwa [Addr.add_lit] at this
/-- What the row's second condition gives the walk. -/
theorem of_laid2 {W : World} (h : laidMetH Tryz.prog laid1 W) : ∃ b o c b0 o0 c0 b1 o1 c1 b2 o2 c2, BkAt W.heap.size W b o c b0 o0 c0 b1 o1 c1 b2 o2 c2 := by
  rw [MakeChecks.laidMetH_plain _ _ _ (by kernel_rfl)] at h
  obtain ⟨ps, ⟨_, _, _, _, _, _, _, _, _, _, ⟨g0, t0, cs0, f0, p0, q0, hg0, ht0, hv0, hd0, _, _⟩, _⟩, _, _⟩ := h
  obtain rfl := Option.some.inj (gBk.symm.trans hg0)
  obtain rfl := Option.some.inj (tBk.symm.trans ht0)
  have cR : Tryz.prog.cellsOf 157 = 1 := by kernel_rfl
  rcases Go.Deep.open_slice1 undRows cR hd0 with ⟨_, h0⟩ | ⟨a, len, cap, m, n, V, D, Pl, hcs, hb, hl, hm, hmm, hx, hel⟩
  · injection h0 with h0
    cases h0
  · injection hx with hd _
    injection hd with hd _
    have hlen : len = 3 := by have := congrArg List.length hd; simpa using this.symm
    subst hlen
    have hmc : m = cap := by rw [hmm]; rfl
    have hD : ∀ j (hj : j < 3), D j = (([[2, 2, -63, 64, 7], [6, 3, -255, 256, 9], [14, 4, -2047, 2048, 12]] : List (List Int)).map fun vals => (DataW.slice (vals.map fun x => .lit (.int .i64 x)) [] : DataW Unit))[j]'(by simpa using hj) := fun j hj => by
      have h3 := congrArg (fun l : List (DataW Unit) => l[j]?) hd
      simp only [List.getElem?_map] at h3
      rw [List.getElem?_range hj] at h3
      match j, hj with
      | 0, _ => simpa using h3.symm
      | 1, _ => simpa using h3.symm
      | 2, _ => simpa using h3.symm
    obtain ⟨v0, t0⟩ := hel 0 (by omega)
    obtain ⟨v1, t1⟩ := hel 1 (by omega)
    obtain ⟨v2, t2⟩ := hel 2 (by omega)
    rw [hD 0 (by omega)] at t0
    rw [hD 1 (by omega)] at t1
    rw [hD 2 (by omega)] at t2
    obtain ⟨b0, o0, c0, e0, l0, k0⟩ := row_of [2, 2, -63, 64, 7] t0 (by decide)
    obtain ⟨b1, o1, c1, e1, l1, k1⟩ := row_of [6, 3, -255, 256, 9] t1 (by decide)
    obtain ⟨b2, o2, c2, e2, l2, k2⟩ := row_of [14, 4, -2047, 2048, 12] t2 (by decide)
    rw [e0] at v0
    rw [e1] at v1
    rw [e2] at v2
    obtain ⟨b, off, sp⟩ := a
    obtain rfl : sp = none := by
      have := World.cell?_spot v0
      simpa [Addr.add] using this
    have hvar := World.var?_cell hg0 hv0 0
    have hc0 : cs0[0]? = some (.slice (some ⟨b, off, none⟩) 3 cap) := by
      rw [← Array.getElem?_toList, hcs]; rfl
    rw [hc0] at hvar
    rw [Addr.add_lit] at v0 v1 v2
    exact ⟨b, off, cap, b0, o0, c0, b1, o1, c1, b2, o2, c2, ⟨⟨block_lt_of_cell hvar, block_lt_of_cell v0, l0, l1, l2⟩, hvar, v0, v1, v2,
      k0 0 (by decide), k0 1 (by decide), k0 2 (by decide), k0 3 (by decide), k0 4 (by decide), k1 0 (by decide), k1 1 (by decide), k1 2 (by decide), k1 3 (by decide), k1 4 (by decide), k2 0 (by decide), k2 1 (by decide), k2 2 (by decide), k2 3 (by decide), k2 4 (by decide)⟩⟩
/-- What the row's first condition gives the walk. -/
theorem of_laid {W : World} (h : laidMetH Tryz.prog laid1 W) : TabW W := by
  rw [MakeChecks.laidMetH_plain _ _ _ (by kernel_rfl)] at h
  obtain ⟨ps, ⟨g0, t0, cs0, f0, p0, q0, hg0, ht0, hv0, hd0, _, _⟩, _, _⟩ := h
  obtain rfl := Option.some.inj (gTab.symm.trans hg0)
  obtain rfl := Option.some.inj (tTab.symm.trans ht0)
  obtain ⟨xs, m1, rfl, hx1, hlen, hn, hel⟩ := DataW.trod_array Tryz.underlying235 hd0
  have c5 : Tryz.prog.cellsOf 5 = 1 := by kernel_rfl
  have hd := congrArg Prod.fst hx1
  rw [laid_eq] at hd
  injection hd with hd
  intro j hj
  have hj1 := hel j hj
  rw [c5, Nat.mul_one, List.getElem?_eq_getElem (by omega)] at hj1
  obtain ⟨k, e1, e2, _⟩ := DataW.trod_int Tryz.underlying5 hj1
  have h1 := congrArg (fun l : List (DataW Unit) => l[j]?) hd
  simp only [List.getElem?_map] at h1
  rw [List.getElem?_eq_getElem (by rw [tab_len]; exact hj), List.getElem?_eq_getElem (by omega), e2] at h1
  simp only [Option.map_some, Option.some.injEq, DataW.lit.injEq, Lit.int.injEq, true_and] at h1
  have h2 := congrArg (fun l : List Value => l[0]?) e1
  simp only [List.getElem?_take, List.getElem?_drop, Nat.add_zero, Nat.lt_add_one, if_true, List.getElem?_cons_zero] at h2
  have h3 := World.var?_cell hg0 hv0 j
  rw [h3, List.getD_eq_getElem?_getD, List.getElem?_eq_getElem (by rw [tab_len]; exact hj), Option.getD_some, h1, ← Array.getElem?_toList]
  simpa using h2

set_option maxRecDepth 100000 in
theorem lifted (os : Os) (started : os.Started) (H : Type) (enc : TypeId × Value → H) :
    ReturnsInHanded {} Tryz.checked os 3 .any (fun w args => (Rows.gorillaListsSpec.pre enc Tryz.prog Tryz.f3 [] false w args ∧ laidMetH Tryz.prog laid1 w) ∧ sizedMet enc Tryz.prog Tryz.f3 (OpenSpec.ofChange Rows.gorillaListsSpec) false w args)
      (Rows.gorillaListsSpec.post enc Tryz.prog Tryz.f3 false true false false) := by
  refine returnsInHanded_of_change_and (C := Tryz.checked) (X := fun w _ => laidMetH Tryz.prog laid1 w) (fun _ _ _ hh h => h.of_heap hh) own started (by kernel_rfl) Tryz.func3
    (ChangeSpec.witness_shaped (enc := enc) (C := Tryz.checked) (os := os) (X := fun w _ => laidMetH Tryz.prog laid1 w) false (World.doorLaid Tryz.prog 22 os) #[.slice none 0 0, .slice none 0 0] 8 rfl (World.shaped_of_RefB (by kernel_rfl) (by kernel_rfl)) (by kernel_rfl) (by kernel_rfl) (by kernel_rfl) (door_met os _)) ?_
  intro W base args ds gs before hval0 hW _ hsz0 hL _
  have hsz : (DataW.weightsEach Tryz.prog (Tryz.f3.params.toList ++ Rows.gorillaListsSpec.plain.varTypes Tryz.prog) (ds ++ gs)).all (· ≤ reachBytes) = true := hsz0
  clear hsz0
  have hval : ∀ (j : Nat) t v, Tryz.f3.params[j]? = some t → args[j]? = some v → Value.okWide Tryz.prog W .any base t v := hval0
  have hW' := hW
  obtain ⟨p, q, hA0, hV, rfl, hfz, hnd⟩ := hW
  have hA : DataW.TrodAll enc Tryz.prog W 0 (fun _ => true) true Tryz.f3.params.toList args.toList ds p := hA0
  rw [Tryz.params3] at hA hval hsz
  obtain ⟨v0, vs0, d0, ds0, p0, q0, hargs, rfl, rfl, h0, r0⟩ := trodAll_cons hA
  obtain ⟨v1, vs1, d1, ds1, p1, q1, rfl, rfl, rfl, h1, r1⟩ := trodAll_cons r0
  obtain ⟨rfl, rfl, rfl⟩ := trodAll_nil r1
  obtain rfl : args = #[v0, v1] := by cases args; simp_all
  obtain ⟨rfl, rfl⟩ := trodVars_none hV
  simp only [List.append_nil] at hsz
  obtain ⟨a0, len0, cap0, rfl⟩ := okWide_slice Tryz.underlying22 (hval 0 22 v0 rfl rfl)
  have k0 := h0
  have lt0 : ∀ x ∈ p0, x.block < W.heap.size := by obtain ⟨m, hm⟩ := k0; exact DataW.trod_lt m _ _ _ hm
  obtain ⟨l0, hl0, w0, z0⟩ : ∃ l, len0 = List.length l ∧ Sms W.heap.size W a0 cap0 l ∧ ((a0 = none → cap0 = 0) ∧ len0 ≤ cap0) := by
    obtain ⟨fuel, hf⟩ := h0
    have hz := slice_facts Tryz.underlying22 hf
    obtain ⟨ao, cp, l, he, hw⟩ := open_smps hf
    cases he
    exact ⟨l, rfl, hw, hz⟩
  subst hl0
  obtain ⟨a1, len1, cap1, rfl⟩ := okWide_slice Tryz.underlying23 (hval 1 23 v1 rfl rfl)
  have k1 := h1
  have lt1 : ∀ x ∈ p1, x.block < W.heap.size := by obtain ⟨m, hm⟩ := k1; exact DataW.trod_lt m _ _ _ hm
  obtain ⟨l1, hl1, w1⟩ : ∃ l, len1 = List.length l ∧ Chs W.heap.size W a1 cap1 l := by
    obtain ⟨fuel, hf⟩ := h1
    obtain ⟨ao, cp, l, he, hw⟩ := open_chks hf (fun n hn => of_decide_eq_true (List.all_eq_true.1 hsz _ (DataW.weights_mem_each (j := 1) rfl rfl n hn)))
    cases he
    exact ⟨l, rfl, hw⟩
  subst hl1
  clear hA0 hval0
  obtain ⟨b, o, c, b0, o0, c0, b1, o1, c1, b2, o2, c2, hbk⟩ := of_laid2 hL
  refine (walk a0 a1 cap0 cap1 l0 l1 W w0 z0.1 z0.2 w1 (of_laid hL) hbk).mono fun e W' ⟨he, bel⟩ => ?_
  subst he
  exact ⟨_, rfl, _, _, _, [], _, [], hW', trodAll_mk1 (shut_bool Tryz.underlying4 _), (trodAll_cons_mk (Below.trod laidOut (by kernel_rfl) (of_decide_eq_true (by kernel_rfl)) k0 bel lt0) (trodAll_cons_mk (Below.trod laidOut (by kernel_rfl) (of_decide_eq_true (by kernel_rfl)) k1 bel lt1) trodAll_mk0)), rfl, bel.frame _, fun h => by cases h⟩

theorem over : Rows.GorillaListsSaid :=
  OpenClaim.holds_of_wide 3 Tryz.f3 rfl rfl rfl rfl rfl rfl rfl ⟨rfl, rfl, rfl, rfl, rfl⟩ rfl rfl rfl rfl rfl (by kernel_rfl) Tryz.func3 (by kernel_rfl)
    (of_decide_eq_true (by kernel_rfl)) (by unfold Func.isWrapper; first | (rw [if_pos (by decide +kernel)]; kernel_rfl) | (rw [if_neg (by decide +kernel)]; exact ⟨rfl, rfl⟩))
    (fun os started H enc _ => lifted os started H enc)

/-- The given statement: the tied card. -/
theorem proved : Rows.GorillaListsCardSaid :=
  Claim7.holds_tied_plain_at .later [] [.data, .widerDeep] true (true, "f238a6525e9dae2663a7f6370808ce8dbe8cbbbf070850f54b09b93acbd84c47") false
    over (fun _ h => by cases h) (by kernel_rfl) (fun _ h => by cases h) gorillaLists_row_tie rfl ⟨rfl, rfl⟩ (by kernel_rfl) rfl
    (fun f fn hf hfn => by
      obtain rfl : f = 3 := Option.some.inj ((show Tryz.prog.funcNamed "barograph/barographlaw10.GorillaLists" = some 3 by kernel_rfl).symm.trans hf) |>.symm
      obtain rfl : fn = Tryz.f3 := (Option.some.inj (Tryz.func3.symm.trans hfn)).symm
      exact ⟨by kernel_rfl, fun j t ht => by
        rw [Tryz.params3] at ht
        have hm : t ∈ [22, 23] := by simpa using Array.mem_of_getElem? ht
        have hall : ([22, 23].all fun u => !Tryz.prog.wantsStandIn u) = true := by kernel_rfl
        exact (show Tryz.prog.wantsStandIn t = false by simpa using List.all_eq_true.1 hall t hm)⟩)
    (by kernel_rfl)
#print axioms proved
end Go.Proofs.YtepjpdhmjchakaaGreatDoor.gorillaLists
