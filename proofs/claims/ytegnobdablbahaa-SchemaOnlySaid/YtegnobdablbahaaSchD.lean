/-
  Schema: what is known.
-/
import Derived.Test.YtegnobdablbahaaSchC
namespace Go.Proofs.Ytegnobdablbahaa
open Go.RowKit
set_option linter.unusedSimpArgs false
set_option linter.unusedVariables false

section
variable {P : Program} {α : Type} {f : α → List Value} {sz : Nat}
/-- THE WALK's append, guarded. -/
theorem wpList_appSG (L : Lies f sz) {ops : Array Oper} {rest : List Oper} {o : Oper} {a : Act} {Q : Exit → Act → World → Prop} {w : World} (hgd : Region.wanted o (yielded ops a.tmps) = true) (s x : Operand) (t tx : TypeId)
    (hop : o.op = Op.call { callee := Callee.builtin Builtin.append, args := #[s, x], argTypes := #[t, tx] }) (base : Nat) (e : TypeId) (z : Value) (by' : Nat)
    (ht : P.underlying t = some (.slice e)) (hi : (P.info? e).map (fun i => (i.zero, i.size, i.bytes)) = some (some z, sz, by')) (hz : z.cells.size = sz)
    (ad : Option Addr) (cap n : Nat) (l : List α) (hn : n = l.length) (news : List α) (xv : Value) (m : Nat) (hm : m = news.length) (he : a.eval s = .slice ad n cap) (hxe : a.eval x = xv)
    (ho : OwnS f sz w base e ad cap l) (hs : Src P sz tx xv m (news.flatMap f) w) (hb : (n + m) * by' ≤ 140737488355328) (hb2 : n + m ≤ 9223372036854775807) (hbase : base ≤ w.heap.size)
    (h : ∀ ad' cap' w', OwnS f sz w' base e ad' cap' (l ++ news) → Kp (ob ad cap) w w' → (∀ b, b ∈ ob ad' cap' → b ∈ ob ad cap ∨ w.heap.size ≤ b) → (ad' = none → ad = none ∧ m = 0) → wpList P ops Q rest (a.put o.dst (.slice ad' (n + m) cap')) w') :
    wpList P ops Q (o :: rest) a w := by
  subst hn
  refine BigFrame.wpList_want hgd fun K hK => ?_
  obtain ⟨ad', cap', w', hrun, r1, r2, r3, r4⟩ := own_appendS (P := P) L w t tx o.type e z by' base ht hi hz ad cap l news xv m hm ho hs hb hb2 hbase
  unfold Oper.wp
  simp [execOp, hop, resolve, invoke, builtin, he, hxe, hrun, Result.andThen]
  exact hK _ _ (h ad' cap' w' r1 r2 r3 r4)
end

def la : List Col := [⟨⟨#[97]⟩, 1⟩]
def ca : Cfg := ⟨0, none, 0, [], none, 0, [], none, 0, [], 5⟩
theorem k17a : wrC la ca = [1, 0, 1, 1, 97, 1, 0, 0, 0, 5, 0, 0, 0] := by decide +kernel
theorem k17b : errC la ca = 0 := by decide +kernel
theorem k17c : mayC la = true := by decide +kernel
theorem k17d : mayC (la ++ la) = false := by decide +kernel
theorem k17e : mayC [] = false := by decide +kernel
theorem k17f : ((strOfNums [1, 0, 1, 1, 97, 1, 0, 0, 0, 5, 0, 0, 0]).toList == [1, 0, 1, 1, 97, 1, 0, 0, 0, 5, 0, 0, 0]) = true := by decide +kernel
theorem ok_la : COk la := by intro x hx; simp [la] at hx; subst hx; exact ⟨by decide, by decide, by decide⟩
theorem ok_la2 : COk (la ++ la) := by intro x hx; simp [la] at hx; subst hx; exact ⟨by decide, by decide, by decide⟩

set_option maxHeartbeats 800000 in
set_option maxRecDepth 100000 in
theorem known17_any (w : World) : Calls Try.prog 12 #[] w fun e w' => e = .returned (.bool true) ∧ Kp [] w w' := by
  go_enter Try.func12, Try.ntmps12
  go_upto_region 2 with (fail)
  generalize hw2 : w.alloc _ = w2
  have h2 : w2.heap[w.heap.size]? = some (.cells #[.string ⟨#[97]⟩, .int .u8 1] 38) := by rw [← hw2]; exact heap_alloc_at rfl
  have HK2 := Lib.hid (show Kp [] w w2 by rw [← hw2]; exact (Kp.refl [] w).alloc _)
  have hb2 : w.heap.size < w2.heap.size := lt_of_heap h2
  have HO2 : Hid (OwnS ccells 2 w2 w.heap.size 38 (some ⟨w.heap.size, 0, none⟩) 1 la) := Lib.hid (.inr ⟨_, _, rfl, Nat.le_refl _, h2, rfl, by decide, by omega, rfl⟩)
  have HR2 : Hid (RdC w2 (some ⟨w.heap.size, 0, none⟩) 1 la) := Lib.hid (HO2.out.rd clies)
  have d0 : w2.cell? ⟨w.heap.size, 0, none⟩ = some (.string ⟨#[97]⟩) := cell_of_row w2 _ 0 _ _ _ h2
  have d1 : w2.cell? ⟨w.heap.size, 1, none⟩ = some (.int .u8 1) := cell_of_row w2 _ 1 _ _ _ h2
  clear hw2 h2
  go_wp2_with fail
  refine (sBytes_any (some ⟨w.heap.size, 0, none⟩) 1 1 la rfl ca _ HR2.out ok_la ⟨RdS.nil _ _ _, RdS.nil _ _ _, by simp [Rd, ca]⟩).mono ?_
  rintro e w3 ⟨ad3, cap3, rfl, ho3, kp3⟩
  rw [k17a] at ho3
  rw [k17a, k17b]
  have HO3 := Lib.hid ho3
  have HK3 := Lib.hid (HK2.out.tr kp3)
  have HOW := Lib.hid (HO2.out.keep0 kp3)
  have hcv := cvs w3 ad3 cap3 13 [1, 0, 1, 1, 97, 1, 0, 0, 0, 5, 0, 0, 0] ho3.rd rfl
  have hq := k17f
  have c0 := kp3.cell d0 (by simp)
  have c1 := kp3.cell d1 (by simp)
  clear ho3 kp3
  go_wp2_with fail
  refine (sMay_any (some ⟨w.heap.size, 0, none⟩) 1 1 la rfl _ (HOW.out.rd clies) ok_la).mono ?_
  rintro e w4 ⟨rfl, kp4⟩
  rw [k17c]
  have e0 := kp4.cell c0 (by simp)
  have e1 := kp4.cell c1 (by simp)
  have HK4 := Lib.hid (HK3.out.tr kp4)
  have HOX := Lib.hid (HOW.out.keep0 kp4)
  clear kp4 c0 c1 d0 d1
  have HB4 : Hid (w.heap.size ≤ (w4.alloc (.cells #[.string ⟨#[97]⟩, .int .u8 1] 38)).heap.size) := Lib.hid (by have := HK4.out.size; simp; omega)
  have HSRC : Hid (Src Try.prog 2 22 (.slice (some ⟨w4.heap.size, 0, none⟩) 1 1) 1 (la.flatMap ccells) (w4.alloc (.cells #[.string ⟨#[97]⟩, .int .u8 1] 38))) := Lib.hid (src_oneS clies (x := ⟨⟨#[97]⟩, 1⟩) Try.underlying22 (heap_alloc_at rfl))
  go_wp2_with (at_builtin; refine wpList_appSG clies (by kernel_rfl) (.tmp 24) (.tmp 28) 22 22 rfl w.heap.size 38 (.agg #[.string ⟨#[]⟩, .int .u8 0]) 24 Try.underlying22 infoColm rfl _ 1 1 la rfl la _ 1 rfl rfl rfl (HOX.out.keep0 ((Kp.refl [] w4).alloc _)) HSRC.out (by omega) (by omega) HB4.out ?_; intro ad5 cap5 w5 ho5 kp5 _ _; have HO5 := Lib.hid ho5; have HK5 := Lib.hid ((HK4.out.alloc (.cells #[.string ⟨#[97]⟩, .int .u8 1] 38)).trans kp5 (U := []) (by simp) (fun y hy => .inr (HOX.out.ob_ge y hy).1)); clear ho5 kp5)
  refine (sMay_any ad5 cap5 2 (la ++ la) rfl _ (HO5.out.rd clies) ok_la2).mono ?_
  rintro e w6 ⟨rfl, kp6⟩
  rw [k17d]
  have HK6 := Lib.hid (HK5.out.tr kp6)
  clear kp6
  go_wp2_with fail
  refine (sMay_any none 0 0 [] rfl _ (RdS.nil _ _ _) (by intro x hx; simp at hx)).mono ?_
  rintro e w7 ⟨rfl, kp7⟩
  rw [k17e]
  have HK7 := Lib.hid (HK6.out.tr kp7)
  clear kp7
  go_wp2_with fail
  go_ret
  exact ⟨rfl, HK7.out⟩
end Go.Proofs.Ytegnobdablbahaa
