/-
  Star-trees: what a tree tells.
-/
import Derived.Test.YthmaobmgogmaoaaStaM
import Derived.Test.YthmaobmgogmaoaaRegionU
namespace Go.Proofs.Ythmaobmgogmaoaa
open Go.RowKit Go.Shelf
set_option linter.unusedSimpArgs false
set_option linter.unusedVariables false
set_option maxRecDepth 100000

section
variable {P : Program}
theorem resCellTmp {fn : Func} {p q : Tmp} {ty : TypeId} (h : fn.results = #[.cell p ty, .tmp q]) (tmps : Array Value) (w : World) (g : Nat) (t : TypeId) (cs : Array Value) (fr : Nat × Nat) (d : TypeDesc)
    (hp : tmps.getD p undef = .pointer (some ⟨g, 0, none⟩)) (hg : w.heap[g]? = some (.cells cs t fr))
    (hu : P.underlying ty = some d) (hd : (match d with | .struct _ | .array _ _ => true | _ => false) = true) (hi : (P.info? ty).map (·.size) = some cs.size) :
    (results fn tmps).run P w = .ok (.tuple #[.agg cs, tmps.getD q undef]) w := by
  have hp' : tmps[p]?.getD undef = .pointer (some ⟨g, 0, none⟩) := by simpa using hp
  simp [results, h, hp', asAddr, run_loadVar_row w g t ty cs fr d hg hu hd hi]
end
/-- A tree, or none: k of it. -/
def TreeK (w : World) (t : Option Addr) (k : Int) : Prop := (t = none ∧ k = 0) ∨ ∃ T, t = some ⟨T, 0, none⟩ ∧ w.cell? ⟨T, 0, none⟩ = some (.int .i64 k)
theorem stNone_any (t : Option Addr) (k : Int) (w : World) (h : TreeK w t k) : Calls Try.prog 38 #[.pointer t] w fun e w' => e = .returned (.bool (decide (k = 0))) ∧ w' = w := by
  rcases h with ⟨rfl, rfl⟩ | ⟨T, rfl, c0⟩
  · go_enter Try.func38, Try.ntmps38
    go_wp2_with fail
    go_ret
    exact ⟨rfl, rfl⟩
  · by_cases hk : k = 0
    · subst hk
      go_enter Try.func38, Try.ntmps38
      go_wp2_with fail
      go_ret
      exact ⟨rfl, rfl⟩
    · have hb : ((k : Int) == 0) = false := by simpa using hk
      have hd : decide (k = 0) = false := by simpa using hk
      go_enter Try.func38, Try.ntmps38
      go_wp2_with fail
      go_ret
      exact ⟨by rw [hd]; rfl, rfl⟩
section
variable {T k mt leaf B : Nat} {X : Nat → Prop} {ra : Option Addr} {rc : Nat} {RL : List Rc} {na : Option Addr} {nc : Nat} {NL : List Nh} {w : World}
theorem TreeH.some0 (h : TreeH T k mt leaf B X ra rc RL na nc NL w) (hk : 1 ≤ k) : Calls Try.prog 38 #[.pointer (some ⟨T, 0, none⟩)] w fun e w' => e = .returned (.bool false) ∧ w' = w := by
  have := stNone_any (some ⟨T, 0, none⟩) (k : Int) w (.inr ⟨T, rfl, h.cell.1⟩)
  rwa [decide_eq_false (by omega)] at this
theorem stRecords_any (h : TreeH T k mt leaf B X ra rc RL na nc NL w) (hk : 1 ≤ k) : Calls Try.prog 14 #[.pointer (some ⟨T, 0, none⟩)] w fun e w' => e = .returned (.int .i64 ((RL.length : Nat) : Int)) ∧ w' = w := by
  have H := Lib.hid (h.some0 hk)
  obtain ⟨-, -, c3, -, -, -⟩ := h.cell
  clear h
  go_enter Try.func14, Try.ntmps14
  go_wp2_with fail
  refine H.out.mono ?_
  rintro e w' ⟨rfl, rfl⟩
  go_wp2_with fail
  go_ret
  exact ⟨rfl, rfl⟩
theorem stNodes_any (h : TreeH T k mt leaf B X ra rc RL na nc NL w) (hk : 1 ≤ k) : Calls Try.prog 16 #[.pointer (some ⟨T, 0, none⟩)] w fun e w' => e = .returned (.int .i64 ((NL.length : Nat) : Int)) ∧ w' = w := by
  have H := Lib.hid (h.some0 hk)
  obtain ⟨-, -, -, c4, -, -⟩ := h.cell
  clear h
  go_enter Try.func16, Try.ntmps16
  go_wp2_with fail
  refine H.out.mono ?_
  rintro e w' ⟨rfl, rfl⟩
  go_wp2_with fail
  go_ret
  exact ⟨rfl, rfl⟩
theorem stDepth_any (h : TreeH T k mt leaf B X ra rc RL na nc NL w) (hk : 1 ≤ k) : Calls Try.prog 22 #[.pointer (some ⟨T, 0, none⟩)] w fun e w' => e = .returned (.int .i64 ((k : Nat) : Int)) ∧ w' = w := by
  have H := Lib.hid (h.some0 hk)
  obtain ⟨c0, -, -, -, -, -⟩ := h.cell
  clear h
  go_enter Try.func22, Try.ntmps22
  go_wp2_with fail
  refine H.out.mono ?_
  rintro e w' ⟨rfl, rfl⟩
  go_wp2_with fail
  go_ret
  exact ⟨rfl, rfl⟩
theorem stMetrics_any (h : TreeH T k mt leaf B X ra rc RL na nc NL w) (hk : 1 ≤ k) : Calls Try.prog 23 #[.pointer (some ⟨T, 0, none⟩)] w fun e w' => e = .returned (.int .i64 ((mt : Nat) : Int)) ∧ w' = w := by
  have H := Lib.hid (h.some0 hk)
  have c1 : w.cell? ⟨T, 1, none⟩ = some (.int .i64 mt) := by rw [cell_of_row w T 1 _ _ _ h.blk]; rfl
  clear h
  go_enter Try.func23, Try.ntmps23
  go_wp2_with fail
  refine H.out.mono ?_
  rintro e w' ⟨rfl, rfl⟩
  go_wp2_with fail
  go_ret
  exact ⟨rfl, rfl⟩
end
/-- A copy of kids. -/
theorem cloneK_any (a0 : Option Addr) (c0 n : Nat) (a : List (Int × Nat)) (hn : n = a.length) (w : World) (ha : RdS kdcells 2 w a0 c0 a) (hb : n ≤ 100000000) :
    Calls Try.prog 40 #[.slice a0 n c0] w fun e w' => ∃ ad cap, e = .returned (.slice ad n cap) ∧ OwnS kdcells 2 w' w.heap.size 44 ad cap a ∧ Kp [] w w' := by
  cases a0 with
  | none =>
    have hz : a = [] := by
      cases a with
      | nil => rfl
      | cons x l => obtain ⟨b, off, h1, -⟩ := ha.2.2 0 (by simp); cases h1
    subst hz
    subst hn
    have heq := fun wx : World => Lib.run_eql_slice_nil (P := Try.prog) wx 38 44 none 0 c0 0 0 Try.underlying38
    clear ha
    go_enter Try.func40, Try.ntmps40
    go_wp2_with fail
    go_ret
    exact ⟨none, 0, rfl, OwnS.nil _ _ _ _ _, Kp.refl _ _⟩
  | some x =>
    have heq := fun wx : World => Lib.run_eql_slice_nil (P := Try.prog) wx 38 44 (some x) n c0 0 0 Try.underlying38
    have HN := Lib.hid hn
    have HR := Lib.hid ha
    clear hn ha
    go_enter Try.func40, Try.ntmps40
    go_wp2_with (at_builtin; refine wpList_appS kdlies rfl (.tmp 5) (.tmp 6) 38 38 rfl w.heap.size 44 (.agg #[.int .i64 0, .int .i64 0]) 16 Try.underlying38 infoKid rfl (some ⟨w.heap.size, 0, none⟩) 0 0 [] rfl a _ n HN.out rfl rfl (.inl ⟨rfl, rfl⟩) (by rw [HN.out]; exact src_rdS kdlies (RdS.keep0 HR.out kdlies.len ((Kp.refl [] w).alloc _)) Try.underlying38) (by omega) (by omega) (by simp) ?_; intro ad1 cap1 w1 ho1 kp1 hob1 _; rw [List.nil_append] at ho1)
    go_ret
    exact ⟨ad1, cap1, by simp, ho1, ((Kp.refl [] w).alloc _).trans kp1 (by simp) (by simp [ob])⟩
theorem infoInt : (Try.prog.info? 3).map (fun i => (i.zero, i.size, i.bytes)) = some (some (.int .i64 0), 1, 8) := by kernel_rfl
theorem infoI64 : (Try.prog.info? 2).map (fun i => (i.zero, i.size, i.bytes)) = some (some (.int .i64 0), 1, 8) := by kernel_rfl
/-- A copy of ids. -/
theorem cloneI_any (x : Addr) (c0 n : Nat) (a : List Int) (hn : n = a.length) (w : World) (ha : Rd w .i64 (some x) c0 a) (hb : n ≤ 1000000) :
    Calls Try.prog 39 #[.slice (some x) n c0] w fun e w' => ∃ ad cap, e = .returned (.slice ad n cap) ∧ Own w' w.heap.size 3 .i64 ad cap a ∧ Kp [] w w' := by
  have heq := fun wx : World => Lib.run_eql_slice_nil (P := Try.prog) wx 23 3 (some x) n c0 0 0 Try.underlying23
  have HN := Lib.hid hn
  have HR := Lib.hid ha
  clear hn ha
  go_enter Try.func39, Try.ntmps39
  go_wp2_with (at_builtin; refine wpList_app rfl (.tmp 5) (.tmp 6) 23 23 rfl w.heap.size 3 .i64 8 Try.underlying23 infoInt (some ⟨w.heap.size, 0, none⟩) 0 0 [] rfl a _ n HN.out rfl rfl (.inl ⟨rfl, rfl⟩) (by rw [HN.out]; exact src_rd (HR.out.keep0 ((Kp.refl [] w).alloc _)) Try.underlying23) (by omega) (by omega) (by simp) ?_; intro ad1 cap1 w1 ho1 kp1 hob1 _; rw [List.nil_append] at ho1)
  go_ret
  exact ⟨ad1, cap1, by simp, ho1, ((Kp.refl [] w).alloc _).trans kp1 (by simp) (by simp [ob])⟩
end Go.Proofs.Ythmaobmgogmaoaa
