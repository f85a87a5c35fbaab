/-
  Star-trees: records in memory; a copy of sums; sorting.
-/
import Derived.Test.YthmaobmgogmaoaaStaA
import Derived.Test.YthmaobmgogmaoaaRowW
import Derived.Shelf.Abstract
namespace Go.Proofs.Ythmaobmgogmaoaa
open Go.RowKit Go.Shelf
set_option linter.unusedSimpArgs false
set_option linter.unusedVariables false
set_option maxRecDepth 100000

def s3cells (m : S3) : List Value := [.int .i64 m.s, .int .i64 m.l, .int .i64 m.g]
theorem slies : Lies s3cells 3 := ⟨fun _ => rfl, fun x v hv => by simp [s3cells] at hv; rcases hv with rfl | rfl | rfl <;> rfl, by omega⟩
theorem infoSum : (Try.prog.info? 84).map (fun i => (i.zero, i.size, i.bytes)) = some (some (.agg #[.int .i64 0, .int .i64 0, .int .i64 0]), 3, 24) := by kernel_rfl
theorem infoRec : (Try.prog.info? 82).map (fun i => (i.zero, i.size, i.bytes)) = some (some (.agg #[.int .i64 0, .int .i64 0, .int .i64 0, .int .i64 0, .int .i64 0, .int .i64 0, .int .i64 0, .int .i64 0, .int .i64 0, .slice none 0 0]), 10, 96) := by kernel_rfl
/-- A record's sums are read. -/
def SumsRd (w : World) (x : Rc) : Prop := x.sn = x.sums.length ∧ RdS s3cells 3 w x.sa x.sc x.sums
theorem SumsRd.keep {w w' : World} {x : Rc} (h : SumsRd w x) {S : List Nat} (k : Kp S w w') (hn : ∀ a, x.sa = some a → x.sums ≠ [] → a.block ∉ S) : SumsRd w' x := ⟨h.1, h.2.keep slies.len k hn⟩
theorem SumsRd.keep0 {w w' : World} {x : Rc} (h : SumsRd w x) (k : Kp [] w w') : SumsRd w' x := h.keep k (by simp)
/-- What a record is, of k columns. -/
def pr (k : Nat) (x : Rc) : PR := ⟨(List.range k).map x.ids, x.cnt, x.sums⟩
/-- Nought behind the columns. -/
def Tail (k : Nat) (x : Rc) : Prop := ∀ j, k ≤ j → j < 8 → x.ids j = 0
theorem all_tail {k : Nat} (hk : k ≤ 8) {x : Rc} (h : Tail k x) : x.all = (pr k x).ids ++ List.replicate (8 - k) 0 := by
  have e : ∀ j, k ≤ j → j < 8 → x.ids j = 0 := h
  have hk' : k = 0 ∨ k = 1 ∨ k = 2 ∨ k = 3 ∨ k = 4 ∨ k = 5 ∨ k = 6 ∨ k = 7 ∨ k = 8 := by omega
  unfold Rc.all pr
  rcases hk' with rfl | rfl | rfl | rfl | rfl | rfl | rfl | rfl | rfl
  · simp [List.replicate, e 0 (by omega) (by omega), e 1 (by omega) (by omega), e 2 (by omega) (by omega), e 3 (by omega) (by omega), e 4 (by omega) (by omega), e 5 (by omega) (by omega), e 6 (by omega) (by omega), e 7 (by omega) (by omega)]
  · simp [List.range_succ, List.replicate, e 1 (by omega) (by omega), e 2 (by omega) (by omega), e 3 (by omega) (by omega), e 4 (by omega) (by omega), e 5 (by omega) (by omega), e 6 (by omega) (by omega), e 7 (by omega) (by omega)]
  · simp [List.range_succ, List.replicate, e 2 (by omega) (by omega), e 3 (by omega) (by omega), e 4 (by omega) (by omega), e 5 (by omega) (by omega), e 6 (by omega) (by omega), e 7 (by omega) (by omega)]
  · simp [List.range_succ, List.replicate, e 3 (by omega) (by omega), e 4 (by omega) (by omega), e 5 (by omega) (by omega), e 6 (by omega) (by omega), e 7 (by omega) (by omega)]
  · simp [List.range_succ, List.replicate, e 4 (by omega) (by omega), e 5 (by omega) (by omega), e 6 (by omega) (by omega), e 7 (by omega) (by omega)]
  · simp [List.range_succ, List.replicate, e 5 (by omega) (by omega), e 6 (by omega) (by omega), e 7 (by omega) (by omega)]
  · simp [List.range_succ, List.replicate, e 6 (by omega) (by omega), e 7 (by omega) (by omega)]
  · simp [List.range_succ, List.replicate, e 7 (by omega) (by omega)]
  · simp [List.range_succ, List.replicate]
theorem cmpR_pr {k : Nat} (hk : k ≤ 8) {x y : Rc} (hx : Tail k x) (hy : Tail k y) : cmpR x y = cmpIs (pr k x).ids (pr k y).ids := by
  unfold cmpR
  rw [all_tail hk hx, all_tail hk hy, cmpIs_tail _ _ _ (by simp [pr])]
theorem all_iff {k : Nat} (hk : k ≤ 8) {x y : Rc} (hx : Tail k x) (hy : Tail k y) : x.all = y.all ↔ (pr k x).ids = (pr k y).ids := by
  rw [← cmpIs_zero, ← cmpIs_zero]
  have := cmpR_pr hk hx hy
  unfold cmpR at this
  rw [this]
theorem cmpR_swo : Swo (ltc cmpR) where
  asym x y h := ltI_asym (a := x.all) (b := y.all) h
  neg x y z h1 h2 := ltI_swo.neg x.all y.all z.all h1 h2
theorem cmpR_ok (g : Nat) (w : World) : CmpOk g w (fun _ => True) 57 #[] cmpR where
  enters := enters_of (P := Try.prog) Try.func57 (by kernel_rfl) rfl
  tells W hW x y _ _ := stTog1_any x y W
  rng x y := by have := cmpIs_rng x.all y.all; unfold cmpR; omega
/-- What is sorted so has the same groups, and rises. -/
theorem stab_groups {k : Nat} (hk : k ≤ 8) {l r : List Rc} (hl : ∀ x ∈ l, Tail k x) (h : Stab (ltc cmpR) l r) (i : List Int) : (r.map (pr k)).filter (hasI i) = (l.map (pr k)).filter (hasI i) := by
  have hr : ∀ x ∈ r, Tail k x := fun x hx => hl x (h.mem cmpR_swo hx)
  rw [List.filter_map, List.filter_map]
  congr 1
  by_cases hex : ∃ x ∈ l, (pr k x).ids = i
  · obtain ⟨x, hx, rfl⟩ := hex
    have e : ∀ m : List Rc, (∀ y ∈ m, Tail k y) → m.filter (hasI (pr k x).ids ∘ pr k) = alk (ltc cmpR) x m := fun m hm => by
      unfold alk
      refine List.filter_congr fun y hy => ?_
      have h1 := cmpR_pr hk (hl x hx) (hm y hy)
      have h2 := cmpR_pr hk (hm y hy) (hl x hx)
      have h3 := cmpIs_anti (pr k x).ids (pr k y).ids
      have h4 := cmpIs_zero (pr k x).ids (pr k y).ids
      rw [Bool.eq_iff_iff]
      simp only [Function.comp, hasI, decide_eq_true_eq, ltc, Bool.and_eq_true, Bool.not_eq_true', decide_eq_false_iff_not, h1, h2]
      constructor
      · intro he
        have := h4.2 he.symm
        omega
      · intro he
        exact (h4.1 (by omega)).symm
    rw [e r hr, e l hl, h.2 x]
  · have e : ∀ m : List Rc, (∀ y ∈ m, y ∈ l) → m.filter (hasI i ∘ pr k) = [] := fun m hm => List.filter_eq_nil_iff.2 fun y hy hh => hex ⟨y, hm y hy, by simpa [hasI] using hh⟩
    rw [e r (fun y hy => h.mem cmpR_swo hy), e l (fun y hy => hy)]
theorem stab_rise {k : Nat} (hk : k ≤ 8) {l r : List Rc} (hl : ∀ x ∈ l, Tail k x) (h : Stab (ltc cmpR) l r) {i : Nat} (hi : i < r.length) : ∀ y ∈ (r.take i).map (pr k), ltI (pr k r[i]).ids y.ids = false := by
  intro y hy
  obtain ⟨z, hz, rfl⟩ := List.mem_map.1 hy
  obtain ⟨j, hj, rfl⟩ := List.getElem_of_mem hz
  rw [List.length_take] at hj
  rw [List.getElem_take]
  have h1 := (List.pairwise_iff_getElem.1 h.1) j i (by omega) hi (by omega)
  have ht := fun j (hj : j < r.length) => hl _ (h.mem cmpR_swo (List.getElem_mem hj))
  simp only [ltc] at h1
  rw [cmpR_pr hk (ht i hi) (ht j (by omega))] at h1
  exact h1

/-- Nothing to sort. -/
theorem rcInsort0_any (a0 : Option Addr) (c0 : Nat) (fv : Value) (w : World) : Calls Try.prog 66 #[.slice a0 0 c0, .int .i64 0, .int .i64 0, fv] w fun e w' => (∃ v, e = .returned v) ∧ w' = w := by
  go_enter Try.func66, Try.ntmps66
  go_wp2_with fail
  go_loopw [8] (fun vi wr => vi = .int .i64 1 ∧ wr = w) (fun _ _ => 0)
  case atStart => exact ⟨rfl, rfl⟩
  case round =>
    obtain ⟨rfl, rfl⟩ := hrel
    go_wp2_with fail
    go_end0
    exact ⟨⟨_, rfl⟩, rfl⟩
theorem rcStable0_any (a0 : Option Addr) (c0 : Nat) (fv : Value) (w : World) : Calls Try.prog 64 #[.slice a0 0 c0, .int .i64 0, fv] w fun e w' => (∃ v, e = .returned v) ∧ w' = w := by
  go_enter Try.func64, Try.ntmps64
  go_wp2_with fail
  go_loopw [7, 8] (fun va vb wr => va = .int .i64 0 ∧ vb = .int .i64 20 ∧ wr = w) (fun _ _ _ => 0)
  case atStart => exact ⟨rfl, rfl, rfl⟩
  case round =>
    obtain ⟨rfl, rfl, rfl⟩ := hrel
    go_wp2_with fail
    refine (rcInsort0_any a0 c0 fv wr).mono ?_
    rintro e w5 ⟨⟨v, rfl⟩, rfl⟩
    go_wp2_with fail
    go_loopw [6] (fun vb wx => vb = .int .i64 20 ∧ wx = w5) (fun _ _ => 0)
    case atStart => exact ⟨rfl, rfl⟩
    case round =>
      obtain ⟨rfl, rfl⟩ := hrel
      go_wp2_with fail
      go_end0
      exact ⟨⟨_, rfl⟩, rfl⟩
theorem rcSortSt0_any (a0 : Option Addr) (c0 : Nat) (fv : Value) (w : World) : Calls Try.prog 56 #[.slice a0 0 c0, fv] w fun e w' => (∃ v, e = .returned v) ∧ w' = w := by
  go_enter Try.func56, Try.ntmps56
  go_wp2_with fail
  refine (rcStable0_any a0 c0 fv w).mono ?_
  rintro e w5 ⟨⟨v, rfl⟩, rfl⟩
  go_wp2_with fail
  go_end0
  exact ⟨⟨_, rfl⟩, rfl⟩

/-- A copy of sums. -/
theorem cloneS_any (a0 : Option Addr) (c0 n : Nat) (a : List S3) (hn : n = a.length) (w : World) (ha : RdS s3cells 3 w a0 c0 a) (hb : n ≤ 1000000) :
    Calls Try.prog 59 #[.slice a0 n c0] w fun e w' => ∃ ad cap, e = .returned (.slice ad n cap) ∧ OwnS s3cells 3 w' w.heap.size 84 ad cap a ∧ Kp [] w w' := by
  cases a0 with
  | none =>
    have hz : a = [] := by
      cases a with
      | nil => rfl
      | cons x l => obtain ⟨b, off, h1, -⟩ := ha.2.2 0 (by simp); cases h1
    subst hz
    subst hn
    have heq := fun wx : World => Lib.run_eql_slice_nil (P := Try.prog) wx 80 84 none 0 c0 0 0 Try.underlying80
    clear ha
    go_enter Try.func59, Try.ntmps59
    go_wp2_with fail
    go_ret
    exact ⟨none, 0, rfl, OwnS.nil _ _ _ _ _, Kp.refl _ _⟩
  | some x =>
    have heq := fun wx : World => Lib.run_eql_slice_nil (P := Try.prog) wx 80 84 (some x) n c0 0 0 Try.underlying80
    have HN := Lib.hid hn
    have HR := Lib.hid ha
    clear hn ha
    go_enter Try.func59, Try.ntmps59
    go_wp2_with (at_builtin; refine wpList_appS slies rfl (.tmp 5) (.tmp 6) 80 80 rfl w.heap.size 84 (.agg #[.int .i64 0, .int .i64 0, .int .i64 0]) 24 Try.underlying80 infoSum rfl (some ⟨w.heap.size, 0, none⟩) 0 0 [] rfl a _ n HN.out rfl rfl (.inl ⟨rfl, rfl⟩) (by rw [HN.out]; exact src_rdS slies (RdS.keep0 HR.out slies.len ((Kp.refl [] w).alloc _)) Try.underlying80) (by omega) (by omega) (by simp) ?_; intro ad1 cap1 w1 ho1 kp1 hob1 _; rw [List.nil_append] at ho1)
    go_ret
    exact ⟨ad1, cap1, by simp, ho1, ((Kp.refl [] w).alloc _).trans kp1 (by simp) (by simp [ob])⟩
end Go.Proofs.Ythmaobmgogmaoaa
