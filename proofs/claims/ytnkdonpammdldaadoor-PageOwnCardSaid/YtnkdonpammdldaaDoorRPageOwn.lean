/- The statement PageOwn: its row and its card. Conditions: none. Written by wip/row.py. -/
import Derived.Test.YtnkdonpammdldaaDoorP2
import Derived.Test.YtnkdonpammdldaaDoorCards
import Derived.Test.YtnkdonpammdldaaDoorTie
import Derived.ProofKit
import Derived.OpenShut
import Derived.Carry
import Derived.Deep.DeepHandedRow
import Derived.Deep.DeepWitnessRowRef
import Derived.Lib.LaidTab
namespace Go.Proofs.YtnkdonpammdldaaDoor.pageOwn
open Go Go.ChangeShapes Go.WideShapes Go.ChangeAt Go.RowKit
set_option linter.unusedVariables false
theorem own : ownKnob Tryd.prog.godebug = none := by kernel_rfl
theorem laidOut : laidOutB Tryd.prog = true := by kernel_rfl
theorem met {W : World} (h : laidMetH Tryd.prog Rows.pageOwnRow.laid W) : laidMet Tryd.prog Rows.pageOwnRow.laid W := h
theorem g0 : Tryd.prog.globalNamed "quota/field.nibbles" = some 5 := by kernel_rfl
theorem nib {W : World} (h : laidMetH Tryd.prog Rows.pageOwnRow.laid W) : Nib W := by
  intro i hi
  have h1 := laid_tab (met h) (List.mem_of_getElem? (i := 0) (show Rows.pageOwnRow.laid[0]? = some ("quota/field.nibbles", Lib.tabData .u32 [0, 498536548, 997073096, 651767980, 1994146192, 1802195444, 1303535960, 1342533948, 3988292384, 4027552580, 3604390888, 3412177804, 2607071920, 2262029012, 2685067896, 3183342108]) from rfl)) g0 (t := 97) (by kernel_rfl) (e := 70) (by kernel_rfl) (by kernel_rfl) (by kernel_rfl) (by kernel_rfl) i (by simpa using hi)
  rw [h1]
  have e : ∀ i, i < 16 → (([0, 498536548, 997073096, 651767980, 1994146192, 1802195444, 1303535960, 1342533948, 3988292384, 4027552580, 3604390888, 3412177804, 2607071920, 2262029012, 2685067896, 3183342108] : List Int).getD i 0) = (nibT i : Int) := by decide +kernel
  rw [e i hi]

theorem g1 : Tryd.prog.globalNamed "quota/page.headSizes" = some 2 := by kernel_rfl
theorem l_headSizes {W : World} (h : laidMetH Tryd.prog Rows.pageOwnRow.laid W) : ∃ a c, W.cell? ⟨2, 0, none⟩ = some (.slice a 6 c) ∧ Rd W a ([1, 1, 2, 2, 2, 4].map fun z => Value.int .i64 z) :=
  laid_ints (met h) (List.mem_of_getElem? (i := 1) (show Rows.pageOwnRow.laid[1]? = some ("quota/page.headSizes", DataW.slice ([1, 1, 2, 2, 2, 4].map fun z => .lit (.int .i64 z)) []) from rfl)) g1 (t := 69) (by kernel_rfl) (e := 3) (by kernel_rfl) (by kernel_rfl) (by kernel_rfl)
theorem g2 : Tryd.prog.globalNamed "quota/page.counterSizes" = some 3 := by kernel_rfl
theorem l_counterSizes {W : World} (h : laidMetH Tryd.prog Rows.pageOwnRow.laid W) : ∃ a c, W.cell? ⟨3, 0, none⟩ = some (.slice a 5 c) ∧ Rd W a ([4, 4, 8, 8, 8].map fun z => Value.int .i64 z) :=
  laid_ints (met h) (List.mem_of_getElem? (i := 2) (show Rows.pageOwnRow.laid[2]? = some ("quota/page.counterSizes", DataW.slice ([4, 4, 8, 8, 8].map fun z => .lit (.int .i64 z)) []) from rfl)) g2 (t := 69) (by kernel_rfl) (e := 3) (by kernel_rfl) (by kernel_rfl) (by kernel_rfl)
theorem g3 : Tryd.prog.globalNamed "quota/page.groupSizes" = some 4 := by kernel_rfl
theorem l_groupSizes {W : World} (h : laidMetH Tryd.prog Rows.pageOwnRow.laid W) : ∃ a c, W.cell? ⟨4, 0, none⟩ = some (.slice a 2 c) ∧ Rd W a ([4, 8].map fun z => Value.int .i64 z) :=
  laid_ints (met h) (List.mem_of_getElem? (i := 3) (show Rows.pageOwnRow.laid[3]? = some ("quota/page.groupSizes", DataW.slice ([4, 8].map fun z => .lit (.int .i64 z)) []) from rfl)) g3 (t := 69) (by kernel_rfl) (e := 3) (by kernel_rfl) (by kernel_rfl) (by kernel_rfl)
theorem szs {W : World} (h : laidMetH Tryd.prog Rows.pageOwnRow.laid W) : Szs W := ⟨l_headSizes h, l_counterSizes h, l_groupSizes h⟩
set_option maxRecDepth 100000 in
/-- What the walk gives, for all arguments and all worlds that the row lets in. -/
theorem contract (H : Type) (enc : TypeId × Value → H) (W : World) (base : Nat) (args : Array Value) (ds gs : List (DataW H)) (before : List MemPlace)
    (hval0 : ∀ (j : Nat) t v, Tryd.f9.params[j]? = some t → args[j]? = some v → Value.okWide Tryd.prog W .any base t v)
    (hW : DataW.Whole enc Tryd.prog Tryd.f9.params.toList Rows.pageOwnSpec.vars false W args.toList ds gs before) (hS : (DataW.weightsEach Tryd.prog (Tryd.f9.params.toList ++ (OpenSpec.ofChange Rows.pageOwnSpec).bare.plain.varTypes Tryd.prog) (ds ++ gs)).all (· ≤ reachBytes) = true) (hL : laidMetH Tryd.prog Rows.pageOwnRow.laid W) :
    Calls Tryd.prog 9 args W fun e W' => ∃ v, e = .returned v ∧ Rows.pageOwnSpec.post enc Tryd.prog Tryd.f9 false true false false W args v W' := by
  rw [Tryd.params9] at hS
  generalize (OpenSpec.ofChange Rows.pageOwnSpec).bare.plain.varTypes Tryd.prog = VT at hS
  have hval := hval0
  have hW' := hW
  obtain ⟨p, q, hA0, hV, rfl, hfz, hnd⟩ := hW
  have hA : DataW.TrodAll enc Tryd.prog W 0 (fun _ => true) true Tryd.f9.params.toList args.toList ds p := hA0
  rw [Tryd.params9] at hA hval
  obtain ⟨v0, vs0, d0, ds0, p0, q0, hargs, rfl, rfl, h0, r0⟩ := trodAll_cons hA
  obtain ⟨v1, vs1, d1, ds1, p1, q1, rfl, rfl, rfl, h1, r1⟩ := trodAll_cons r0
  obtain ⟨rfl, rfl, rfl⟩ := trodAll_nil r1
  obtain rfl : args = #[v0, v1] := by cases args; simp_all
  obtain ⟨rfl, rfl⟩ := trodVars_none hV
  have lt0 : ∀ x ∈ p0, x.block < W.heap.size := by obtain ⟨m, hm⟩ := h0; exact DataW.trod_lt m _ _ _ hm
  have s0 : ∀ n ∈ d0.weights Tryd.prog 25, n ≤ reachBytes := fun n hn => by
    have := List.all_eq_true.1 hS n (DataW.weights_mem_each (j := 0) (t := 25) (d := d0) rfl rfl n hn)
    simpa using this
  have a0 : ArgW Tryd.prog W 25 v0 := ⟨H, enc, base, d0, p0, hval 0 25 v0 rfl rfl, h0, s0⟩
  have lt1 : ∀ x ∈ p1, x.block < W.heap.size := by obtain ⟨m, hm⟩ := h1; exact DataW.trod_lt m _ _ _ hm
  have s1 : ∀ n ∈ d1.weights Tryd.prog 25, n ≤ reachBytes := fun n hn => by
    have := List.all_eq_true.1 hS n (DataW.weights_mem_each (j := 1) (t := 25) (d := d1) rfl rfl n hn)
    simpa using this
  have a1 : ArgW Tryd.prog W 25 v1 := ⟨H, enc, base, d1, p1, hval 1 25 v1 rfl rfl, h1, s1⟩
  clear hA0 hval0
  refine (pageOwn_walk (nib hL) (szs hL) a0 a1).2.mono fun e W' ⟨he, kk⟩ => ?_
  subst he
  have bel : Below W.heap.size W W' := kk.below (Nat.le_refl _) fun _ _ h => h.elim
  exact ⟨_, rfl, _, _, _, [], _, [], hW', trodAll_mk1 (shut_bool (t := 4) (by kernel_rfl) _), (trodAll_cons_mk (Below.trod laidOut (by kernel_rfl) (of_decide_eq_true (by kernel_rfl)) h0 bel lt0) (trodAll_cons_mk (Below.trod laidOut (by kernel_rfl) (of_decide_eq_true (by kernel_rfl)) h1 bel lt1) trodAll_mk0)), rfl, bel.frame _, fun h => by cases h⟩

/-- A world for the witness: the settled one, the variables holding what their initialisers lay. -/
noncomputable def laidWorld (os : Os) : World :=
  let N := (World.settled Tryd.prog os).heap.size
  let w0 := World.holding Tryd.prog os ⟨#[.cells #[.int .i64 1, .int .i64 1, .int .i64 2, .int .i64 2, .int .i64 2, .int .i64 4] 3, .cells #[.int .i64 4, .int .i64 4, .int .i64 8, .int .i64 8, .int .i64 8] 3, .cells #[.int .i64 4, .int .i64 8] 3], #[], []⟩
  let put (h : Array Obj) (g : Nat) (cs : Array Value) : Array Obj := h.modify g fun
    | .cells _ t frozen => .cells cs t frozen
    | o => o
  let h1 := put w0.heap 5 #[.int .u32 0, .int .u32 498536548, .int .u32 997073096, .int .u32 651767980, .int .u32 1994146192, .int .u32 1802195444, .int .u32 1303535960, .int .u32 1342533948, .int .u32 3988292384, .int .u32 4027552580, .int .u32 3604390888, .int .u32 3412177804, .int .u32 2607071920, .int .u32 2262029012, .int .u32 2685067896, .int .u32 3183342108]
  let h2 := put h1 2 #[.slice (some ⟨N + 0, 0, none⟩) 6 6]
  let h3 := put h2 3 #[.slice (some ⟨N + 1, 0, none⟩) 5 5]
  let h4 := put h3 4 #[.slice (some ⟨N + 2, 0, none⟩) 2 2]
  { w0 with heap := h4 }
theorem laid_met (os : Os) : laidMet Tryd.prog Rows.pageOwnRow.laid ((laidWorld os).forCall (fun _ _ => 0) ⟨#[], #[.agg #[.int .i64 0, .int .i64 0, .slice none 0 0, .slice none 0 0], .agg #[.int .i64 0, .int .i64 0, .slice none 0 0, .slice none 0 0]], []⟩).memory :=
  laidMet_of_run' 8 (by kernel_rfl) (by kernel_rfl)
theorem reads (os : Os) {H : Type} (enc : TypeId × Value → H) : ∃ x, DataW.whole enc Tryd.prog ((laidWorld os).forCall (fun _ _ => 0) ⟨#[], #[.agg #[.int .i64 0, .int .i64 0, .slice none 0 0, .slice none 0 0], .agg #[.int .i64 0, .int .i64 0, .slice none 0 0, .slice none 0 0]], []⟩).memory Tryd.f9.params.toList Rows.pageOwnSpec.vars false (#[.agg #[.int .i64 0, .int .i64 0, .slice none 0 0, .slice none 0 0], .agg #[.int .i64 0, .int .i64 0, .slice none 0 0, .slice none 0 0]] : Array Value).toList 8 = some x :=
  Option.isSome_iff_exists.1 (by kernel_rfl)
set_option maxRecDepth 100000 in
theorem lifted (os : Os) (started : os.Started) (H : Type) (enc : TypeId × Value → H) (F : Stop.Interp) :
    ReturnsInHanded {} Tryd.checked os 9 .any ((OpenSpec.ofChange Rows.pageOwnSpec).preRow enc Tryd.prog Tryd.f9 Rows.pageOwnRow.domain false Rows.pageOwnRow.laid) (((OpenSpec.ofChange Rows.pageOwnSpec).at F).post enc Tryd.prog Tryd.f9 false true false false) := by
  obtain ⟨x, hx⟩ := reads os enc
  refine returnsInHanded_of_row (C := Tryd.checked) (s := OpenSpec.ofChange Rows.pageOwnSpec) own started (by kernel_rfl) Tryd.func9
    (witness_row_atRef (enc := enc) (C := Tryd.checked) false (laidWorld os) #[.agg #[.int .i64 0, .int .i64 0, .slice none 0 0, .slice none 0 0], .agg #[.int .i64 0, .int .i64 0, .slice none 0 0, .slice none 0 0]] rfl (by kernel_rfl) (by kernel_rfl) (by kernel_rfl)
      (OpenSpec.preRow_of_cond 8 hx (by kernel_rfl) (fun k hk => by cases hk) (by kernel_rfl) (laid_met os))) ?_
  intro W base args ds gs before hval hW _ _ hS hL _ _
  exact contract H enc W base args ds gs before hval hW hS hL

theorem said : Rows.PageOwnSaid :=
  OpenClaim.holds_of_cond 9 Tryd.f9 rfl rfl rfl rfl rfl rfl rfl ⟨rfl, rfl, rfl, rfl, rfl⟩ rfl rfl rfl rfl rfl (by kernel_rfl) Tryd.func9 (by kernel_rfl)
    (of_decide_eq_true (by kernel_rfl)) (by unfold Func.isWrapper; first | (rw [if_pos (by decide +kernel)]; kernel_rfl) | (rw [if_neg (by decide +kernel)]; exact ⟨rfl, rfl⟩))
    (fun os started H enc _ F => by rw [OpenClaim.pre_eq_preRow]; exact lifted os started H enc F)

theorem plain (f : FuncId) (fn : Func) (hf : Tryd.pinned.checked.prog.funcNamed "quota/quotalaw07.PageOwn" = some f) (hfn : Tryd.pinned.checked.prog.funcs[f]? = some fn) :
    false = Tryd.pinned.checked.prog.looks [] ∧ ∀ (j : Nat) t, fn.params[j]? = some t → Tryd.pinned.checked.prog.wantsStandIn t = false := by
  obtain rfl : f = 9 := Option.some.inj ((show Tryd.prog.funcNamed "quota/quotalaw07.PageOwn" = some 9 by kernel_rfl).symm.trans hf) |>.symm
  obtain rfl : fn = Tryd.f9 := (Option.some.inj (Tryd.func9.symm.trans hfn)).symm
  refine ⟨by kernel_rfl, fun j t ht => ?_⟩
  rw [Tryd.params9] at ht
  have hm := Array.mem_of_getElem? ht
  simp only [List.mem_toArray, List.mem_cons, List.not_mem_nil, or_false] at hm
  rcases hm with rfl | rfl
  · exact (show Tryd.prog.wantsStandIn 25 = false by kernel_rfl)
  · exact (show Tryd.prog.wantsStandIn 25 = false by kernel_rfl)

/-- The card. -/
theorem card : Rows.PageOwnCardSaid :=
  Claim7.holds_tied_plain_at .later [] _ _ _ _ said (fun _ h => by cases h) (by kernel_rfl) (fun _ h => by cases h) pageOwn_row_tie rfl ⟨rfl, rfl⟩ (by kernel_rfl) rfl plain (by kernel_rfl)
end Go.Proofs.YtnkdonpammdldaaDoor.pageOwn
