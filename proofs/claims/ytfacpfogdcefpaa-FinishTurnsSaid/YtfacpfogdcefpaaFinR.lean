/-
  Ranging over a function that hands over what lies in memory of its own: the body may know of it.
-/
import Derived.Test.YtfacpfogdcefpaaFinA
import Derived.RangeFuncNested
import Derived.RangeFuncBound
import Derived.RangeFuncCalls
import Derived.RangeFuncLeaves
import Derived.Shelf.Abstract
import Derived.Shelf.RegionOpen
import Derived.WalkKit
import Derived.OwnWalkIn
import Derived.TacticsInMore
import Derived.LoopNIn
import Derived.LoopIn
namespace Go.Proofs.Ytfacpfogdcefpaa
open Go.RowKit Go.Shelf
set_option linter.unusedSimpArgs false
set_option linter.unusedVariables false
set_option maxRecDepth 100000

/-- What stands while the rounds run: what the caller says, the loop's own two blocks. -/
def Runs {α : Type} (I : List α → World → Prop) (D : Nat) (r : Loop) (pre : List α) (W : World) : Prop :=
  I pre W ∧ W.heap[D + 1]? = some (.loop r) ∧ W.heap[D]? = some (.deferred (some []))
theorem Runs.abides {α : Type} {I : List α → World → Prop} {D B : Nat} {r : Loop} (hI : OwnFrom D I) (hD : D ≤ B) : AbidesFrom B (Runs I D r) := by
  rintro pre W W' row ⟨h1, h2, h3⟩ hg hr
  refine ⟨hI _ _ _ _ h1 hg fun q hq => ?_, ?_, ?_⟩
  · obtain ⟨hB, o, ho, hw⟩ := hr q hq
    exact ⟨by omega, o, ho, Obj.not_cells_of_walk hw⟩
  · rw [grownBy_keeps hg (fun q hq => (hr q hq).2) h2 rfl]; exact h2
  · rw [grownBy_keeps hg (fun q hq => (hr q hq).2) h3 rfl]; exact h3

set_option maxHeartbeats 800000 in
theorem range_told {α : Type} {n : Nat} {g : Operand} {ps : Array Tmp} {assign body : Code} {Q : Exit → Act → World → Prop} {a : Act} {w : World}
    (h1 : 1 ≤ n) {gf : Nat} {lb : Array Value} (hg : a.eval g = .func (.func gf) #[] lb) (eg : ∀ args w, (callFunc gf args).run Try.prog w = .ok (.enter gf args) w)
    {encs : α → Array Value} (hps : ∀ x, (encs x).size = ps.size) (N : Nat) (G : α → World → Prop) (Kx : World → World → Prop) (S I : List α → World → Prop)
    (hKt : ∀ {A B C : World}, Kx A B → Kx B C → Kx A C)
    (hKb : ∀ (W : World) (l : Nat) (o o' : Obj), w.heap.size ≤ l → W.heap[l]? = some o → o.isCells = false → Kx W (W.putObj l o'))
    (hI : OwnFrom w.heap.size I) (hG : OwnFrom w.heap.size G) (hS : OwnFrom w.heap.size S) (h0 : I [] w) (a₁ : α → Act)
    (hseq : ∀ (l : Nat) (J : List α → World → Prop) (W : World), Below w.heap.size w W → AbidesFrom W.heap.size J →
      (∀ pre x W1, J pre W1 → G x W1 → pre.length < N → YieldAt Fence.wide (n - 1 - 1) Try.prog l (encs x) W1 fun e W' => e = .returned (.bool true) ∧ J (pre ++ [x]) W' ∧ Kx W1 W') → J [] W →
      CallsIn Fence.wide (n - 1) Try.prog gf (#[.func (.yield l) #[] #[]] ++ lb) W fun e W' => (∃ v, e = .returned v) ∧ ∃ xs, S xs W' ∧ J xs W')
    (hassign : ∀ (l : Nat) (x : α) (W : World) (K : Act → World → Prop), K (a₁ x) W →
      assign.wpIn (Fence.wide.inRound l) (n - 1 - 1) Try.prog (Exit.then K (fun _ _ _ => False)) { tmps := (ps.zip (encs x)).foldl (fun t (p, v) => t.setIfInBounds p v) a.tmps, defers := [] } W)
    (hbody : ∀ (l : Nat) (pre : List α) (x : α) (W : World), I pre W → G x W → pre.length < N → body.wpIn (Fence.wide.inRound l) (n - 1 - 1) Try.prog (Exit.then (fun _ W' => KeepsFrom w.heap.size W W' ∧ Kx W W' ∧ I (pre ++ [x]) W') (fun _ _ _ => False)) (a₁ x) W)
    (hdone : ∀ (D : Nat) (xs : List α) (W : World), w.heap.size ≤ D → S xs W → I xs W → W.heap[D]? = some (.deferred (some [])) → Q .normal { a with defers := { target := .collected D, args := #[] } :: a.defers } W) :
    (Code.rangeFunc g ps assign body).wpIn Fence.wide n Try.prog Q a w := by
  refine wpIn_rangeFunc fun fn hfn => ?_
  obtain ⟨D, hD⟩ : ∃ D, D = w.heap.size := ⟨_, rfl⟩
  let lp : LoopState → Loop := fun st => { state := st, pending := none, fn := fn, tmps := a.tmps, params := ps, assign := assign, body := body, defers := D }
  obtain ⟨V, hV⟩ : ∃ V, V = (w.alloc (.deferred (some []))).alloc (.loop (lp .ready)) := ⟨_, rfl⟩
  have v1 : V.heap[D + 1]? = some (.loop (lp .ready)) := by
    rw [hV, hD, ← World.size_alloc w (.deferred (some []))]; exact World.alloc_heap_new _ _
  have v0 : V.heap[D]? = some (.deferred (some [])) := by
    rw [hV, hD]; exact (Below.heap_alloc _ _ _ (by simp)).trans (World.alloc_heap_new w _)
  have vI : I [] V := by rw [hV]; exact hI.alloc _ (hI.alloc _ h0)
  have vB : Below w.heap.size w V := by rw [hV]; exact ((Below.refl _ w).alloc (Nat.le_refl _) _).alloc (by simp) _
  have vS : D ≤ V.heap.size := by rw [hD]; exact vB.size
  have enter : (Instr.enterLoop fn a.tmps ps assign body Fence.wide.round).run Try.prog w = .ok (D + 1, [{ target := .collected D, args := #[] }]) V := by
    have := run_enterLoop_outer (P := Try.prog) (w := w) fn a.tmps ps assign body
    rw [← hD] at this
    rw [hV]; exact this
  refine ⟨D + 1, [{ target := .collected D, args := #[] }], V, { target := .fn (.func gf) lb, args := #[.func (.yield (D + 1)) #[] #[]] }, V, gf, #[.func (.yield (D + 1)) #[] #[]] ++ lb, V, enter, ?_, fun _ _ => trivial, ?_, fun _ => h1, ?_⟩
  · simp only [resolve, hg]; simp [go_sem]
  · simp [invoke, go_sem, eg]
  · have hI' := hI; have hG' := hG; have hS' := hS
    rw [← hD] at hI' hG' hS'
    refine (hseq (D + 1) (Runs I D (lp .ready)) V vB (Runs.abides hI' vS) (fun pre x W => ?_) ⟨vI, v1, v0⟩).mono ?_
    · -- a round
      rintro ⟨i1, i2, i3⟩ gx hlen
      have lt2 : D + 1 < W.heap.size := (Array.getElem?_eq_some_iff.1 i2).1
      have hy := run_yield (P := Try.prog) (args := encs x) i2 (hps x)
      refine ⟨fn, _, assign, body, hy, roundIn_of_wpIn hfn (hassign _ x W _ ⟨_, run_beginRound i2 rfl, ?_⟩)⟩
      obtain ⟨X, hX⟩ : ∃ X, X = W.putObj (D + 1) (.loop (lp .busy)) := ⟨_, rfl⟩
      have x2 : X.heap[D + 1]? = some (.loop (lp .busy)) := by rw [hX]; exact World.putObj_heap_same lt2
      have x3 : X.heap[D]? = some (.deferred (some [])) := by rw [hX]; exact (World.putObj_heap_other (by omega)).trans i3
      have xI : I pre X := by rw [hX]; exact hI'.putObj _ i1 (by omega) i2 rfl
      have xG : G x X := by rw [hX]; exact hG'.putObj _ gx (by omega) i2 rfl
      have xK : Kx W X := by rw [hX]; exact hKb _ _ _ _ (by omega) i2 rfl
      have hb := hbody (D + 1) pre x X xI xG hlen
      rw [hX] at hb
      refine wpIn_mono hb ?_
      rw [← hX]
      intro e a3 Y hp
      cases e with
      | normal =>
        obtain ⟨k1, k2, k3⟩ := hp
        rw [← hD] at k1
        have y2 := k1.same _ _ (by omega) x2 rfl
        have y3 := k1.same _ _ (Nat.le_refl _) x3 rfl
        refine ⟨_, _, run_endRound (P := Try.prog) none y2, rfl, ⟨hI'.putObj _ k3 (by omega) y2 rfl, World.putObj_heap_same (Array.getElem?_eq_some_iff.1 y2).1, (World.putObj_heap_other (by omega)).trans y3⟩, hKt xK (hKt k2 (hKb _ _ _ _ (by omega) y2 rfl))⟩
      | ret => exact hp.elim
      | exit id => exact hp.elim
      | goto t => exact hp.elim
      | panic ch => exact hp.elim
      | outgrown => exact hp.elim
    · -- behind it
      rintro e W2 ⟨⟨v, rfl⟩, xs, hs, i1, i2, i3⟩
      exact ⟨none, _, run_endLoop (P := Try.prog) i2 (by simp [lp]), hdone D xs _ (by omega) (hS'.putObj _ hs (by omega) i2 rfl) (hI'.putObj _ i1 (by omega) i2 rfl) ((World.putObj_heap_other (by omega)).trans i3)⟩

section
variable {P : Program} {α : Type} {f : α → List Value} {sz : Nat}
/-- An append in such a walk. -/
theorem wpListIn_appS {F : Fence} {fn : Nat} (L : Lies f sz) {ops : Array Oper} {rest : List Oper} {o : Oper} {a : Act} {Q : Exit → Act → World → Prop} {w : World} (hgd : o.guard = none) (s x : Operand) (t tx : TypeId)
    (hop : o.op = Op.call { callee := Callee.builtin Builtin.append, args := #[s, x], argTypes := #[t, tx] }) (base : Nat) (e : TypeId) (z : Value) (by' : Nat)
    (ht : P.underlying t = some (.slice e)) (hi : (P.info? e).map (fun i => (i.zero, i.size, i.bytes)) = some (some z, sz, by')) (hz : z.cells.size = sz)
    (ad : Option Addr) (cap n : Nat) (l : List α) (hn : n = l.length) (news : List α) (xv : Value) (m : Nat) (hm : m = news.length) (he : a.eval s = .slice ad n cap) (hxe : a.eval x = xv)
    (ho : OwnS f sz w base e ad cap l) (hs : Src P sz tx xv m (news.flatMap f) w) (hb : (n + m) * by' ≤ 140737488355328) (hb2 : n + m ≤ 9223372036854775807) (hbase : base ≤ w.heap.size)
    (h : ∀ ad' cap' w', OwnS f sz w' base e ad' cap' (l ++ news) → Kp (ob ad cap) w w' → (∀ b, b ∈ ob ad' cap' → b ∈ ob ad cap ∨ w.heap.size ≤ b) → (ad' = none → ad = none ∧ m = 0) → wpListIn F fn P ops Q rest (a.put o.dst (.slice ad' (n + m) cap')) w') :
    wpListIn F fn P ops Q (o :: rest) a w := by
  subst hn
  refine wpListIn_plain hgd fun K hK => ?_
  obtain ⟨ad', cap', w', hrun, r1, r2, r3, r4⟩ := own_appendS (P := P) L w t tx o.type e z by' base ht hi hz ad cap l news xv m hm ho hs hb hb2 hbase
  unfold Oper.wpIn
  refine ⟨by simp [Oper.about, hop, resolve, Target.leads, Sem.run_pure], ?_⟩
  rw [Oper.semAt_plain F _ _ (by rw [hop]; intro c hc; cases hc)]
  simp [execOp, hop, resolve, invoke, builtin, he, hxe, hrun, Result.andThen]
  exact hK _ _ (h ad' cap' w' r1 r2 r3 r4)
end
end Go.Proofs.Ytfacpfogdcefpaa
