/-
  A region that draws its order: operations that make memory.
-/
import Derived.Test.YthmaobmgogmaoaaRegion
namespace Go.Proofs.Ythmaobmgogmaoaa
open Go.RowKit
set_option linter.unusedSimpArgs false
set_option linter.unusedVariables false

/-- An empty slice without room. -/
def SV.bare : SV := ⟨fun v _ => ∃ ad, v = .slice ad 0 0, fun _ _ _ h _ => h⟩
section
variable {P : Program}
theorem exec_do {ops : Array Oper} {o : Oper} {a : Act} {w w' : World} {Vi : Value → World → Prop} {c : Value} (hw : Region.wanted o (yielded ops a.tmps) = true) (hr : (execOp a.eval o).run P w = .ok (.value c) w') (hv : Vi c w') (hk : Kp [] w w') : ExecV P ops (Kp []) Vi o a w := by
  unfold ExecV
  rw [if_pos hw]
  unfold Oper.wp
  rw [hr]
  exact ⟨c, rfl, hv, hk⟩
theorem exec_app {ops : Array Oper} {o : Oper} {a : Act} {w : World} {Vi : Value → World → Prop} (hw : Region.wanted o (yielded ops a.tmps) = true) (s x : Operand) (t tx : TypeId)
    (hop : o.op = Op.call { callee := Callee.builtin Builtin.append, args := #[s, x], argTypes := #[t, tx] }) (base : Nat) (e : TypeId) (k : IntKind) (by' : Nat)
    (ht : P.underlying t = some (.slice e)) (hi : (P.info? e).map (fun i => (i.zero, i.size, i.bytes)) = some (some (.int k 0), 1, by'))
    (ad : Option Addr) (news : List Int) (xv : Value) (m : Nat) (hm : m = news.length) (he : a.eval s = .slice ad 0 0) (hxe : a.eval x = xv)
    (hs : Src P 1 tx xv m (news.map (Value.int k)) w) (hb : m * by' ≤ 140737488355328) (hb2 : m ≤ 9223372036854775807) (hbase : base ≤ w.heap.size)
    (h : ∀ ad' cap' w', Own w' base e k ad' cap' news → Vi (.slice ad' m cap') w') : ExecV P ops (Kp []) Vi o a w := by
  unfold ExecV
  rw [if_pos hw]
  obtain ⟨ad', cap', w', hrun, r1, r2, r3, r4⟩ := own_append (P := P) w t tx o.type e k by' base ht hi ad 0 [] news xv m hm (.inl ⟨rfl, rfl⟩) hs (by simpa using hb) (by simpa using hb2) hbase
  simp only [List.length_nil, Nat.zero_add, List.nil_append] at hrun r1
  unfold Oper.wp
  simp only [execOp, hop, resolve, invoke, builtin, Sem.run_bind, Sem.run_pure, Result.andThen_ok, List.map_toArray, List.map_cons, List.map_nil, he, hxe, hrun]
  exact ⟨_, rfl, h _ _ _ r1, by simpa [ob] using r2⟩
end
end Go.Proofs.Ythmaobmgogmaoaa
