/-
  Layer 3: what is known; the law of sums.
-/
import Derived.Test.YtegnobdablbahaaCrc4
import Derived.Lib.SmallJoins
namespace Go.Proofs.Ytegnobdablbahaa
open Go.RowKit
set_option linter.unusedSimpArgs false
set_option linter.unusedVariables false

section
variable {P : Program}
/-- 'append(x, b...)', x empty: a copy. -/
theorem wpList_copyB {ops : Array Oper} {rest : List Oper} {o : Oper} {a : Act} {Q : Exit → Act → World → Prop} {w : World} (hgd : o.guard = none) (s x : Operand) (t tx : TypeId)
    (hop : o.op = Op.call { callee := Callee.builtin Builtin.append, args := #[s, x], argTypes := #[t, tx] }) (base : Nat) (e : TypeId) (k : IntKind) (by' : Nat)
    (ht : P.underlying t = some (.slice e)) (htx : P.underlying tx = some (.slice e)) (hi : (P.info? e).map (fun i => (i.zero, i.size, i.bytes)) = some (some (.int k 0), 1, by'))
    (ad0 : Option Addr) (ad : Option Addr) (cap n : Nat) (zs : List Int) (hn : n = zs.length) (he : a.eval s = .slice ad0 0 0) (hxe : a.eval x = .slice ad n cap)
    (hr : Rd w k ad cap zs) (hb : n * by' ≤ 140737488355328) (hb2 : n ≤ 9223372036854775807) (hbase : base ≤ w.heap.size)
    (h : ∀ ad' cap' w', Own w' base e k ad' cap' zs → Kp [] w w' → wpList P ops Q rest (a.put o.dst (.slice ad' n cap')) w') :
    wpList P ops Q (o :: rest) a w := by
  subst hn
  refine wpList_app hgd s x t tx hop base e k by' ht hi ad0 0 0 [] rfl zs _ zs.length rfl he hxe (.inl ⟨rfl, rfl⟩) (src_rd hr htx) (by simpa using hb) (by simpa using hb2) hbase ?_
  intro ad' cap' w' h1 h2 _ _
  rw [Nat.zero_add]
  exact h ad' cap' w' h1 (h2.trans (Kp.refl [] w') (U := []) (by simp [ob]) (by simp))
end

theorem k3a : unErr [1, 0, 0, 0, 7, 0, 0, 0, 0] 0 = 6 := by decide +kernel
theorem k3b : crc [49, 50, 51, 52, 53, 54, 55, 56, 57] = 3421780262 := by decide +kernel
theorem k3c : crc [] = 0 := by decide +kernel

theorem bytes_dec {l : List Int} (h : l.all (fun z => decide (0 ≤ z) && decide (z ≤ 255)) = true) : Bytes8 l := fun z hz => by
  have := List.all_eq_true.1 h z hz; simp at this; exact this

/-- A row of numbers that is laid, marked or not. -/
theorem rd_row {w : World} {g : Nat} {k : IntKind} {zs : List Int} {t : TypeId} {fr : Nat × Nat} (h : w.heap[g]? = some (.cells (ints k zs) t fr)) (hl : zs.length ≤ 9223372036854775807) : Rd w k (some ⟨g, 0, none⟩) zs.length zs :=
  ⟨Nat.le_refl _, hl, fun i hi => ⟨g, 0, rfl, by rw [Nat.zero_add, cell_of_row w g i _ _ _ h, ints_get k zs i hi]⟩⟩

end Go.Proofs.Ytegnobdablbahaa
