/-
  The Go function isinglass/isinglasstop.TopBitmaps returns true for every input, and its argument reads afterwards as before. The listed tables of package variables hold what the program's text lays (the tied card).
-/
import Derived.Test.YtimemehaccgmmaaGreatDoorO3
import Derived.Test.YtimemehaccgmmaaGreatDoorO6
import Derived.Test.YtimemehaccgmmaaGreatDoorM45
import Derived.Test.YtimemehaccgmmaaGreatDoorCards
import Derived.Test.YtimemehaccgmmaaGreatDoorTie
import Derived.WalkKit
import Derived.ChangeOld
import Derived.SevenTiedAt
namespace Go.Proofs.YtimemehaccgmmaaGreatDoor
open Go.ChangeShapes Go.WideShapes Go.ChangeAt Go.RowKit
open Go.Joins Go.Deep
set_option linter.unusedVariables false
set_option linter.unusedSimpArgs false
set_option maxRecDepth 100000
theorem bm_lifted (os : Os) (started : os.Started) (H : Type) (enc : TypeId × Value → H) :
    ReturnsInHanded {} Tryz.checked os 3 .any (fun w args => (Rows.topBitmapsSpec.pre enc Tryz.prog Tryz.f3 [] false w args ∧ laidMetH Tryz.prog L3 w) ∧ sizedMet enc Tryz.prog Tryz.f3 (OpenSpec.ofChange Rows.topBitmapsSpec) false w args)
      (Rows.topBitmapsSpec.post enc Tryz.prog Tryz.f3 false true false false) := by
  refine returnsInHanded_of_change_and (C := Tryz.checked) (X := fun w _ => laidMetH Tryz.prog L3 w) (fun _ _ _ hh h => h.of_heap hh) own started (by kernel_rfl) Tryz.func3
    (ChangeSpec.witness_shaped (enc := enc) (C := Tryz.checked) (os := os) (X := fun w _ => laidMetH Tryz.prog L3 w) false (World.doorLaid Tryz.prog 400 os) #[.agg #[.slice none 0 0, .int .i64 0, .slice none 0 0, .slice none 0 0, .slice none 0 0, .int .i64 0, .slice none 0 0, .slice none 0 0]] 8 rfl (World.shaped_of_RefB (by kernel_rfl) (by kernel_rfl)) (by kernel_rfl) (by kernel_rfl) (by kernel_rfl) (door_met os _)) ?_
  intro W base args ds gs before hval0 hW _ _ hL _
  have hval : ∀ (j : Nat) t v, Tryz.f3.params[j]? = some t → args[j]? = some v → Value.okWide Tryz.prog W .any base t v := hval0
  have hW' := hW
  obtain ⟨p, q, hA0, hV, rfl, hfz, hnd⟩ := hW
  have hA1 : DataW.TrodAll enc Tryz.prog W 0 (fun _ => true) true Tryz.f3.params.toList args.toList ds p := hA0
  rw [Tryz.params3] at hA1 hval
  obtain ⟨v0, d0, rfl, rfl, h0⟩ := trodAll_one hA1
  obtain ⟨rfl, rfl⟩ := trodVars_none hV
  have k0k := h0
  have lt0 : ∀ x ∈ p, x.block < W.heap.size := by obtain ⟨m, hm⟩ := k0k; exact DataW.trod_lt m _ _ _ hm
  obtain ⟨cs, rfl, hsz⟩ := okWide_struct Tryz.underlying30 (hval 0 30 v0 rfl rfl)
  obtain ⟨fuel, hf⟩ := h0
  obtain ⟨d, x, hcs, hx1, hF⟩ := open_case hf
  clear hA0 hval0
  have hv : (Value.agg cs) = .agg ⟨caC x⟩ := by
    have h1 : cs.toList = caC x := hcs
    rw [← h1]
  have hrun : Calls Tryz.prog 3 #[Value.agg cs] W fun e w' => e = .returned (.bool true) ∧ Below W.heap.size W w' := by
    rw [hv]; exact case_run hF (of_laid hL) (fun J hT hJ => cTopBitmaps hx1 hT hJ)
  refine hrun.mono fun e W' ⟨he, bel⟩ => ?_
  subst he
  exact ⟨_, rfl, _, _, _, [], _, [], hW', trodAll_mk1 (shut_bool Tryz.underlying4 _), trodAll_mk1 (Below.trod laidOut (by kernel_rfl) (of_decide_eq_true (by kernel_rfl)) k0k bel lt0), rfl, bel.frame _, fun h => by cases h⟩
theorem bm_named : Tryz.pinned.checked.prog.funcNamed Rows.topBitmapsRow.func = some 3 := by kernel_rfl
theorem bm_inst : Tryz.f3.isInstance Tryz.pinned.checked.prog Rows.topBitmapsRow.origin Rows.topBitmapsRow.targs := of_decide_eq_true (by kernel_rfl)
theorem bm_wrap : Tryz.f3.isWrapper Tryz.pinned.checked.prog Rows.topBitmapsRow.wrapper Rows.topBitmapsRow.mainSum := by unfold Func.isWrapper; first | (rw [if_pos (by decide +kernel)]; kernel_rfl) | (rw [if_neg (by decide +kernel)]; exact ⟨rfl, rfl⟩)
theorem bm_over : Rows.TopBitmapsSaid :=
  OpenClaim.holds_of_wide 3 Tryz.f3 rfl rfl rfl rfl rfl rfl rfl ⟨rfl, rfl, rfl, rfl, rfl⟩ rfl rfl rfl rfl rfl bm_named Tryz.func3 bm_facts bm_inst bm_wrap
    (fun os started H enc _ => bm_lifted os started H enc)
theorem bm_wf : Rows.topBitmapsRow.wfByText (OpenSpec.ofChange Rows.topBitmapsSpec) = true := by kernel_rfl
theorem bm_main : Tryz.pinned.checked.prog.mainIs = some (true, "8c983feb572f71ce80985e782819b9f64a2b1cadcc551f1d3b674474907f5f1d".toList) := by kernel_rfl
theorem bm_looks : true = Tryz.pinned.checked.prog.looks [] := by kernel_rfl
theorem bm_goes : false = Rows.topBitmapsRow.goesBy Tryz.pinned.checked.prog := by kernel_rfl
theorem bm_stand : Tryz.pinned.checked.prog.wantsStandIn 30 = false := by kernel_rfl
theorem topBitmaps_card : Rows.TopBitmapsCardSaid :=
  Claim7.holds_tied_plain_at .later [] [.data, .data, .data] true (true, "8c983feb572f71ce80985e782819b9f64a2b1cadcc551f1d3b674474907f5f1d") true
    bm_over (fun _ h => by cases h) bm_wf (fun _ h => by cases h) topBitmaps_row_tie rfl ⟨rfl, rfl⟩ bm_main rfl
    (fun f fn hf hfn => by
      obtain rfl : f = 3 := Option.some.inj (bm_named.symm.trans hf) |>.symm
      obtain rfl : fn = Tryz.f3 := (Option.some.inj (Tryz.func3.symm.trans hfn)).symm
      exact ⟨bm_looks, fun j t ht => by
        have h3 : t = 30 := by
          have h4 : Tryz.f3.params[j]? = some t := ht
          rw [Tryz.params3] at h4
          rcases j with _ | j
          · simpa using h4.symm
          · simp at h4
        subst h3
        exact bm_stand⟩)
    bm_goes
#print axioms topBitmaps_card
end Go.Proofs.YtimemehaccgmmaaGreatDoor
