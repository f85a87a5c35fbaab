/-
  The Go function isinglass/isinglasstop.TopSizes returns true for every input, and its argument reads afterwards as before. The listed tables of package variables hold what the program's text lays (the tied card).
-/
import Derived.Test.YtimemehaccgmmaaGreatDoorO3
import Derived.Test.YtimemehaccgmmaaGreatDoorO5
import Derived.Test.YtimemehaccgmmaaGreatDoorM40
import Derived.Test.YtimemehaccgmmaaGreatDoorCards
import Derived.Test.YtimemehaccgmmaaGreatDoorTie
import Derived.WalkKit
import Derived.ChangeOld
import Derived.SevenTiedAt
namespace Go.Proofs.YtimemehaccgmmaaGreatDoor
open Go.ChangeShapes Go.WideShapes Go.ChangeAt Go.RowKit
open Go.Joins Go.Deep
set_option linter.unusedVariables false
set_option linter.unusedSimpArgs false
set_option maxRecDepth 100000
theorem sz_lifted (os : Os) (started : os.Started) (H : Type) (enc : TypeId × Value → H) :
    ReturnsInHanded {} Tryz.checked os 4 .any (fun w args => (Rows.topSizesSpec.pre enc Tryz.prog Tryz.f4 [] false w args ∧ laidMetH Tryz.prog L3 w) ∧ sizedMet enc Tryz.prog Tryz.f4 (OpenSpec.ofChange Rows.topSizesSpec) false w args)
      (Rows.topSizesSpec.post enc Tryz.prog Tryz.f4 false true false false) := by
  refine returnsInHanded_of_change_and (C := Tryz.checked) (X := fun w _ => laidMetH Tryz.prog L3 w) (fun _ _ _ hh h => h.of_heap hh) own started (by kernel_rfl) Tryz.func4
    (ChangeSpec.witness_shaped (enc := enc) (C := Tryz.checked) (os := os) (X := fun w _ => laidMetH Tryz.prog L3 w) false (World.doorLaid Tryz.prog 400 os) #[.agg #[.slice none 0 0, .int .i64 0, .slice none 0 0, .slice none 0 0, .slice none 0 0, .int .i64 0, .slice none 0 0, .slice none 0 0]] 8 rfl (World.shaped_of_RefB (by kernel_rfl) (by kernel_rfl)) (by kernel_rfl) (by kernel_rfl) (by kernel_rfl) (door_met os _)) ?_
  intro W base args ds gs before hval0 hW _ _ hL _
  have hval : ∀ (j : Nat) t v, Tryz.f4.params[j]? = some t → args[j]? = some v → Value.okWide Tryz.prog W .any base t v := hval0
  have hW' := hW
  obtain ⟨p, q, hA0, hV, rfl, hfz, hnd⟩ := hW
  have hA1 : DataW.TrodAll enc Tryz.prog W 0 (fun _ => true) true Tryz.f4.params.toList args.toList ds p := hA0
  rw [Tryz.params4] at hA1 hval
  obtain ⟨v0, d0, rfl, rfl, h0⟩ := trodAll_one hA1
  obtain ⟨rfl, rfl⟩ := trodVars_none hV
  have k0k := h0
  have lt0 : ∀ x ∈ p, x.block < W.heap.size := by obtain ⟨m, hm⟩ := k0k; exact DataW.trod_lt m _ _ _ hm
  obtain ⟨cs, rfl, hsz⟩ := okWide_struct Tryz.underlying30 (hval 0 30 v0 rfl rfl)
  obtain ⟨fuel, hf⟩ := h0
  obtain ⟨d, x, hcs, hx1, hF⟩ := open_case hf
  clear hA0 hval0
  have hv : (Value.agg cs) = .agg ⟨caC x⟩ := by
    have h1 : cs.toList = caC x := hcs
    rw [← h1]
  have hrun : Calls Tryz.prog 4 #[Value.agg cs] W fun e w' => e = .returned (.bool true) ∧ Below W.heap.size W w' := by
    rw [hv]; exact case_run hF (of_laid hL) (fun J hT hJ => cTopSizes hx1 hT hJ)
  refine hrun.mono fun e W' ⟨he, bel⟩ => ?_
  subst he
  exact ⟨_, rfl, _, _, _, [], _, [], hW', trodAll_mk1 (shut_bool Tryz.underlying4 _), trodAll_mk1 (Below.trod laidOut (by kernel_rfl) (of_decide_eq_true (by kernel_rfl)) k0k bel lt0), rfl, bel.frame _, fun h => by cases h⟩
theorem sz_named : Tryz.pinned.checked.prog.funcNamed Rows.topSizesRow.func = some 4 := by kernel_rfl
theorem sz_inst : Tryz.f4.isInstance Tryz.pinned.checked.prog Rows.topSizesRow.origin Rows.topSizesRow.targs := of_decide_eq_true (by kernel_rfl)
theorem sz_wrap : Tryz.f4.isWrapper Tryz.pinned.checked.prog Rows.topSizesRow.wrapper Rows.topSizesRow.mainSum := by unfold Func.isWrapper; first | (rw [if_pos (by decide +kernel)]; kernel_rfl) | (rw [if_neg (by decide +kernel)]; exact ⟨rfl, rfl⟩)
theorem sz_over : Rows.TopSizesSaid :=
  OpenClaim.holds_of_wide 4 Tryz.f4 rfl rfl rfl rfl rfl rfl rfl ⟨rfl, rfl, rfl, rfl, rfl⟩ rfl rfl rfl rfl rfl sz_named Tryz.func4 sz_facts sz_inst sz_wrap
    (fun os started H enc _ => sz_lifted os started H enc)
theorem sz_wf : Rows.topSizesRow.wfByText (OpenSpec.ofChange Rows.topSizesSpec) = true := by kernel_rfl
theorem sz_main : Tryz.pinned.checked.prog.mainIs = some (true, "8c983feb572f71ce80985e782819b9f64a2b1cadcc551f1d3b674474907f5f1d".toList) := by kernel_rfl
theorem sz_looks : true = Tryz.pinned.checked.prog.looks [] := by kernel_rfl
theorem sz_goes : false = Rows.topSizesRow.goesBy Tryz.pinned.checked.prog := by kernel_rfl
theorem sz_stand : Tryz.pinned.checked.prog.wantsStandIn 30 = false := by kernel_rfl
theorem topSizes_card : Rows.TopSizesCardSaid :=
  Claim7.holds_tied_plain_at .later [] [.data, .data, .data] true (true, "8c983feb572f71ce80985e782819b9f64a2b1cadcc551f1d3b674474907f5f1d") true
    sz_over (fun _ h => by cases h) sz_wf (fun _ h => by cases h) topSizes_row_tie rfl ⟨rfl, rfl⟩ sz_main rfl
    (fun f fn hf hfn => by
      obtain rfl : f = 4 := Option.some.inj (sz_named.symm.trans hf) |>.symm
      obtain rfl : fn = Tryz.f4 := (Option.some.inj (Tryz.func4.symm.trans hfn)).symm
      exact ⟨sz_looks, fun j t ht => by
        have h3 : t = 30 := by
          have h4 : Tryz.f4.params[j]? = some t := ht
          rw [Tryz.params4] at h4
          rcases j with _ | j
          · simpa using h4.symm
          · simp at h4
        subst h3
        exact sz_stand⟩)
    sz_goes
#print axioms topSizes_card
end Go.Proofs.YtimemehaccgmmaaGreatDoor
