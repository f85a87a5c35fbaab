/-
  Star-trees: the law's known tree.
-/
import Derived.Test.YthmaobmgogmaoaaStaX
namespace Go.Proofs.Ythmaobmgogmaoaa
open Go.RowKit Go.Shelf
set_option linter.unusedSimpArgs false
set_option linter.unusedVariables false
set_option maxRecDepth 100000

section
variable {P : Program}
/-- A struct load whose guard holds. -/
theorem wpList_load_row_g {ops : Array Oper} {rest : List Oper} {o : Oper} {a : Act} {w : World} {Q : Exit → Act → World → Prop} (hw : Region.wanted o (yielded ops a.tmps) = true) (ty : TypeId) (x : Operand) (ho : o.op = .load ty x)
    (g : Nat) (hx : a.eval x = .pointer (some ⟨g, 0, none⟩)) (t : TypeId) (cs : Array Value) (fr : Nat × Nat) (d : TypeDesc) (hg : w.heap[g]? = some (.cells cs t fr))
    (hu : P.underlying ty = some d) (hd : (match d with | .struct _ | .array _ _ => true | _ => false) = true) (hi : (P.info? ty).map (·.size) = some cs.size)
    (h : wpList P ops Q rest (a.put o.dst (.agg cs)) w) : wpList P ops Q (o :: rest) a w :=
  wpList_step fun K hK => by rw [if_pos hw]; exact wp_load_row ty x ho g hx t cs fr d hg hu hd hi (hK _ _ h)
end
def S19 : List (List Int) := [[0, 0, 1], [1, 1, 1]]
def M19 : List (List Int) := [[5, 7, 1]]
theorem may19 : mayS S19 [2, 2] M19 1 = true := by kernel_rfl
theorem of19R : (ofP S19 M19 1).R = [⟨[0, 1], 2, [⟨12, 5, 7⟩]⟩, ⟨[1, 1], 1, [⟨1, 1, 1⟩]⟩, ⟨[-1, 1], 3, [⟨13, 1, 7⟩]⟩] := by kernel_rfl
theorem of19N : (ofP S19 M19 1).N = [⟨0, 0, 2, [(0, 1), (1, 2), (-1, 3)]⟩, ⟨1, 0, 1, []⟩, ⟨1, 1, 2, []⟩, ⟨1, 2, 3, []⟩] := by kernel_rfl
theorem rdS_row {w : World} {g : Nat} {hs : List Ih} {t : TypeId} (h : w.heap[g]? = some (.cells (hs.map (fun h : Ih => Value.slice h.ad h.n h.cap)).toArray t)) (hl : hs.length ≤ 9223372036854775807) : RdS icells 1 w (some ⟨g, 0, none⟩) hs.length hs := by
  refine ⟨Nat.le_refl _, hl, fun i hi => ⟨g, 0, rfl, fun j hj => ?_⟩⟩
  obtain rfl : j = 0 := by omega
  rw [cell_of_row w g _ _ _ _ h]; simp [icells, hi]

/-- A told record of a tree that is known. -/
theorem stRecord_at {T k mt leaf B : Nat} {X : Nat → Prop} {ra : Option Addr} {rc : Nat} {RL : List Rc} {na : Option Addr} {nc : Nat} {NL : List Nh} (w : World) (h : TreeH T k mt leaf B X ra rc RL na nc NL w) (hk : 1 ≤ k) (hk8 : k ≤ 8) (hmt : mt ≤ 1000) (n : Nat) {r : PR} (hr : (RL.map (pr k))[n]? = some r) :
    Calls Try.prog 15 #[.pointer (some ⟨T, 0, none⟩), .int .i64 (n : Int)] w fun e w' => ∃ x : Ra, e = .returned (.tuple #[raV x, .int .i64 0]) ∧ x.pr = r ∧ RaOwn w' w.heap.size x ∧ Kp [] w w' := by
  obtain ⟨hn, rfl⟩ := List.getElem?_eq_some_iff.1 hr
  refine (stRecord_any w h hk hk8 hmt (n : Int)).mono ?_
  rintro e w' ⟨kp, ⟨h1, -⟩ | ⟨m, hm, x, h1, rfl, h2, h3⟩⟩
  · omega
  · obtain rfl : n = m := by omega
    exact ⟨x, rfl, h2, h3, kp⟩
theorem stNode_at {T k mt leaf B : Nat} {X : Nat → Prop} {ra : Option Addr} {rc : Nat} {RL : List Rc} {na : Option Addr} {nc : Nat} {NL : List Nh} (w : World) (h : TreeH T k mt leaf B X ra rc RL na nc NL w) (hk : 1 ≤ k) (hkb : ∀ y ∈ NL, y.kids.length ≤ 100000000) (n : Nat) {r : PN} (hr : (NL.map pn)[n]? = some r) :
    Calls Try.prog 17 #[.pointer (some ⟨T, 0, none⟩), .int .i64 (n : Int)] w fun e w' => ∃ y : Nh, e = .returned (.tuple #[nodeV y, .int .i64 0]) ∧ pn y = r ∧ y.kn = y.kids.length ∧ OwnS kdcells 2 w' w.heap.size 44 y.ka y.kc y.kids ∧ Kp [] w w' := by
  obtain ⟨hn, rfl⟩ := List.getElem?_eq_some_iff.1 hr
  refine (stNode_any w h hk hkb (n : Int)).mono ?_
  rintro e w' ⟨kp, ⟨h1, -⟩ | ⟨m, hm, x, h1, rfl, h2, h3, h4⟩⟩
  · omega
  · obtain rfl : n = m := by omega
    exact ⟨x, rfl, h2, h3, h4, kp⟩
def H0 (w : World) : Ih := ⟨some ⟨w.heap.size, 0, none⟩, 3, 3, [0, 0, 1]⟩
def H1 (w : World) : Ih := ⟨some ⟨w.heap.size + 1, 0, none⟩, 3, 3, [1, 1, 1]⟩
def H2 (w : World) : Ih := ⟨some ⟨w.heap.size + 1 + 1 + 1 + 1, 0, none⟩, 3, 3, [5, 7, 1]⟩

set_option maxHeartbeats 1600000 in
theorem known19_any (w : World) : Calls Try.prog 12 #[] w fun e w' => e = .returned (.bool true) ∧ Kp [] w w' := by
  go_enter Try.func12, Try.ntmps12
  go_wp2_with fail
  obtain ⟨w6, hw6⟩ : ∃ w6, w6 = ((((((w.alloc (Obj.cells #[Value.int IntKind.i64 0, Value.int IntKind.i64 0, Value.int IntKind.i64 1] 3)).alloc
    (Obj.cells #[Value.int IntKind.i64 1, Value.int IntKind.i64 1, Value.int IntKind.i64 1] 3)).alloc
    (Obj.cells #[Value.slice (some ⟨w.heap.size, 0, none⟩) 3 3, Value.slice (some ⟨w.heap.size + 1, 0, none⟩) 3 3] 23)).alloc
    (Obj.cells #[Value.int IntKind.i64 2, Value.int IntKind.i64 2] 3)).alloc
    (Obj.cells #[Value.int IntKind.i64 5, Value.int IntKind.i64 7, Value.int IntKind.i64 1] 2)).alloc
    (Obj.cells #[Value.slice (some ⟨w.heap.size + 1 + 1 + 1 + 1, 0, none⟩) 3 3] 32)) := ⟨_, rfl⟩
  rw [← hw6]
  have HK6 : Hid (Kp [] w w6) := Lib.hid (by rw [hw6]; exact ((((((Kp.refl [] w).alloc _).alloc _).alloc _).alloc _).alloc _).alloc _)
  have g0 : w6.heap[w.heap.size]? = some (.cells (ints .i64 [0, 0, 1]) 3) := by rw [hw6]; exact cells_alloc (cells_alloc (cells_alloc (cells_alloc (cells_alloc (heap_alloc_at rfl)))))
  have g1 : w6.heap[w.heap.size + 1]? = some (.cells (ints .i64 [1, 1, 1]) 3) := by rw [hw6]; exact cells_alloc (cells_alloc (cells_alloc (cells_alloc (heap_alloc_at (by simp)))))
  have g2 : w6.heap[w.heap.size + 1 + 1]? = some (.cells #[.slice (some ⟨w.heap.size, 0, none⟩) 3 3, .slice (some ⟨w.heap.size + 1, 0, none⟩) 3 3] 23) := by rw [hw6]; exact cells_alloc (cells_alloc (cells_alloc (heap_alloc_at (by simp))))
  have g3 : w6.heap[w.heap.size + 1 + 1 + 1]? = some (.cells (ints .i64 [2, 2]) 3) := by rw [hw6]; exact cells_alloc (cells_alloc (heap_alloc_at (by simp)))
  have g4 : w6.heap[w.heap.size + 1 + 1 + 1 + 1]? = some (.cells (ints .i64 [5, 7, 1]) 2) := by rw [hw6]; exact cells_alloc (heap_alloc_at (by simp))
  have g5 : w6.heap[w.heap.size + 1 + 1 + 1 + 1 + 1]? = some (.cells #[.slice (some ⟨w.heap.size + 1 + 1 + 1 + 1, 0, none⟩) 3 3] 32) := by rw [hw6]; exact heap_alloc_at (by simp)
  have HOF : Hid (Calls Try.prog 13 #[.slice (some ⟨w.heap.size + 1 + 1, 0, none⟩) 2 2, .slice (some ⟨w.heap.size + 1 + 1 + 1, 0, none⟩) 2 2, .slice (some ⟨w.heap.size + 1 + 1 + 1 + 1 + 1, 0, none⟩) 1 1, .int .i64 1] w6 (OfPost S19 M19 [2, 2] 1 w6)) := Lib.hid
    (stOf_any _ 2 2 [H0 w, H1 w] rfl _ 2 2 [2, 2] rfl _ 1 1 [H2 w] rfl 1 w6
      ⟨rdS_row (hs := [H0 w, H1 w]) g2 (by simp), fun x hx => by
        simp at hx
        rcases hx with rfl | rfl
        · exact ⟨rfl, (Own.row (zs := [0, 0, 1]) (Nat.le_refl _) g0 (by simp)).rd⟩
        · exact ⟨rfl, (Own.row (zs := [1, 1, 1]) (Nat.le_refl _) g1 (by simp)).rd⟩⟩
      (Own.row (zs := [2, 2]) (Nat.le_refl _) g3 (by simp)).rd
      ⟨rdS_row (hs := [H2 w]) g5 (by simp), fun x hx => by
        simp at hx
        subst hx
        exact ⟨rfl, (Own.row (zs := [5, 7, 1]) (Nat.le_refl _) g4 (by simp)).rd⟩⟩ (by simp [rowP, lis, H0]))
  clear g0 g1 g2 g3 g4 g5 hw6
  refine HOF.out.mono ?_
  rintro e w7 ⟨kp7, ⟨h1, -⟩ | ⟨-, T, lf, rfl, hlf, hT, ra, rc, RL, na, nc, NL, hTr, hEq⟩⟩
  · rw [may19] at h1; cases h1
  have hR : RL.map (pr 2) = [⟨[0, 1], 2, [⟨12, 5, 7⟩]⟩, ⟨[1, 1], 1, [⟨1, 1, 1⟩]⟩, ⟨[-1, 1], 3, [⟨13, 1, 7⟩]⟩] := by
    obtain rfl : lf = 1 := by omega
    have := congrArg St.R hEq
    rw [of19R] at this; exact this
  have hN : NL.map pn = [⟨0, 0, 2, [(0, 1), (1, 2), (-1, 3)]⟩, ⟨1, 0, 1, []⟩, ⟨1, 1, 2, []⟩, ⟨1, 2, 3, []⟩] := by
    obtain rfl : lf = 1 := by omega
    have := congrArg St.N hEq
    rw [of19N] at this; exact this
  have HTR : Hid (TreeH T 2 1 lf w6.heap.size (fun _ => False) ra rc RL na nc NL w7) := Lib.hid hTr
  have HR := Lib.hid hR
  have HN := Lib.hid hN
  have HK7 := Lib.hid (HK6.out.tr kp7)
  have hlen : RL.length = 3 := by have := congrArg List.length hR; simpa using this
  have HL := Lib.hid hlen
  have HKB : Hid (∀ y ∈ NL, y.kids.length ≤ 100000000) := Lib.hid (fun y hy => by
    have h1 : pn y ∈ NL.map pn := List.mem_map.2 ⟨y, hy, rfl⟩
    rw [hN] at h1
    have h2 : y.kids = (pn y).kids := rfl
    rw [h2]
    simp at h1
    rcases h1 with h | h | h | h <;> rw [h] <;> simp)
  clear kp7 hTr hEq hR hN hlen hlf hT
  go_wp2_with fail
  refine (stRecords_any HTR.out (by omega)).mono ?_
  rintro e w8 ⟨rfl, rfl⟩
  rw [HL.out]
  go_wp2_with fail
  refine (stDepth_any HTR.out (by omega)).mono ?_
  rintro e w9 ⟨rfl, rfl⟩
  go_wp2_with fail
  refine (stMetrics_any HTR.out (by omega)).mono ?_
  rintro e w10 ⟨rfl, rfl⟩
  go_wp2_with fail
  refine (stRecord_at w10 (HTR.out.keep0 (Kp.refl [] w10)) (by omega) (by omega) (by omega) 0 (r := ⟨[0, 1], 2, [⟨12, 5, 7⟩]⟩) (by rw [HR.out]; rfl)).mono ?_
  rintro e w11 ⟨x, rfl, hx, hox, kpw11⟩
  unfold raV
  go_wp2_with (refine wpList_store_row rfl 34 _ _ rfl w11.heap.size #[.slice x.ia x.ids.length x.ic, .int .i64 x.cnt, .slice x.sa x.ms.length x.sc, .slice x.la x.ms.length x.lc, .slice x.ga x.ms.length x.gc] rfl rfl 34 _ (heap_alloc_at rfl) (by kernel_rfl) rfl (by simp [Value.oneCell']) ?_)
  obtain ⟨p, hp⟩ : ∃ p, p = w11.heap.size := ⟨_, rfl⟩
  generalize hz : (w11.alloc (Obj.cells _ _)).setRow _ _ = w12
  rw [← hp] at hz ⊢
  have hrp : w12.heap[p]? = some (.cells #[.slice x.ia x.ids.length x.ic, .int .i64 x.cnt, .slice x.sa x.ms.length x.sc, .slice x.la x.ms.length x.lc, .slice x.ga x.ms.length x.gc] 34) := by rw [← hz]; exact setRow_heap _ p _ _ _ _ (heap_alloc_at hp)
  have kp : Kp [] w11 w12 := by rw [← hz]; exact ((Kp.refl [] w11).alloc _).setRowF _ _ (.inr (by omega))
  have HRp := Lib.hid hrp
  have HOp := Lib.hid (hox.rd.keep0 kp)
  have HPp := Lib.hid hx
  have HKp := Lib.hid ((Kp.refl [] w10).tr (kpw11.tr kp))
  clear hz hrp kp hp hox hx kpw11
  refine (stRecord_at w12 (HTR.out.keep0 HKp.out) (by omega) (by omega) (by omega) 2 (r := ⟨[-1, 1], 3, [⟨13, 1, 7⟩]⟩) (by rw [HR.out]; rfl)).mono ?_
  rintro e w13 ⟨y, rfl, hy, hoy, kpw13⟩
  unfold raV
  go_wp2_with (refine wpList_store_row rfl 34 _ _ rfl w13.heap.size #[.slice y.ia y.ids.length y.ic, .int .i64 y.cnt, .slice y.sa y.ms.length y.sc, .slice y.la y.ms.length y.lc, .slice y.ga y.ms.length y.gc] rfl rfl 34 _ (heap_alloc_at rfl) (by kernel_rfl) rfl (by simp [Value.oneCell']) ?_)
  obtain ⟨q, hq⟩ : ∃ p, p = w13.heap.size := ⟨_, rfl⟩
  generalize hz : (w13.alloc (Obj.cells _ _)).setRow _ _ = w14
  rw [← hq] at hz ⊢
  have hrq : w14.heap[q]? = some (.cells #[.slice y.ia y.ids.length y.ic, .int .i64 y.cnt, .slice y.sa y.ms.length y.sc, .slice y.la y.ms.length y.lc, .slice y.ga y.ms.length y.gc] 34) := by rw [← hz]; exact setRow_heap _ q _ _ _ _ (heap_alloc_at hq)
  have kq : Kp [] w13 w14 := by rw [← hz]; exact ((Kp.refl [] w13).alloc _).setRowF _ _ (.inr (by omega))
  have HRq := Lib.hid hrq
  have HOq := Lib.hid (hoy.rd.keep0 kq)
  have HPq := Lib.hid hy
  have HKq := Lib.hid (HKp.out.tr (kpw13.tr kq))
  have HRp2 := Lib.hid ((kpw13.tr kq).get HRp.out (by simp))
  have HOp2 := Lib.hid (HOp.out.keep0 (kpw13.tr kq))
  clear hz hrq kq hq hoy hy kpw13
  refine (stNode_at w14 (HTR.out.keep0 HKq.out) (by omega) HKB.out 0 (r := ⟨0, 0, 2, [(0, 1), (1, 2), (-1, 3)]⟩) (by rw [HN.out]; rfl)).mono ?_
  rintro e w15 ⟨v, rfl, hv, hvn, hvo, kpw15⟩
  have HV := Lib.hid hv
  have HVN := Lib.hid hvn
  clear hv hvn
  unfold nodeV
  go_upto_region 7 with (refine wpList_store_row rfl 40 _ _ rfl w15.heap.size #[.int .i64 (v.d : Int), .int .i64 (v.f : Int), .int .i64 (v.t : Int), .slice v.ka v.kn v.kc] rfl rfl 40 _ (heap_alloc_at rfl) (by kernel_rfl) rfl (by simp [Value.oneCell']) ?_)
  obtain ⟨g, hg⟩ : ∃ p, p = w15.heap.size := ⟨_, rfl⟩
  generalize hz : (w15.alloc (Obj.cells _ _)).setRow _ _ = w16
  rw [← hg] at hz ⊢
  have hrg : w16.heap[g]? = some (.cells #[.int .i64 (v.d : Int), .int .i64 (v.f : Int), .int .i64 (v.t : Int), .slice v.ka v.kn v.kc] 40) := by rw [← hz]; exact setRow_heap _ g _ _ _ _ (heap_alloc_at hg)
  have kg : Kp [] w15 w16 := by rw [← hz]; exact ((Kp.refl [] w15).alloc _).setRowF _ _ (.inr (by omega))
  have HRg := Lib.hid hrg
  have KG := Lib.hid (kpw15.tr kg)
  have HVO := Lib.hid (hvo.keep0 kg)
  clear hz hrg kg hg hvo kpw15
  have HL1 := Lib.hid (KG.out.get HRp2.out (by simp))
  go_wp2_with (refine wpList_load_row_g rfl 34 _ rfl p rfl 34 #[.slice x.ia x.ids.length x.ic, .int .i64 x.cnt, .slice x.sa x.ms.length x.sc, .slice x.la x.ms.length x.lc, .slice x.ga x.ms.length x.gc] (0, 0) _ HL1.out Try.underlying34 rfl (by kernel_rfl) ?_)
  obtain ⟨w17, hw17⟩ : ∃ u, u = ((((w16.alloc (Obj.cells #[.int .i64 (0), .int .i64 1] 3)).alloc (Obj.cells #[.int .i64 12] 2)).alloc (Obj.cells #[.int .i64 5] 2)).alloc (Obj.cells #[.int .i64 7] 2)) := ⟨_, rfl⟩
  rw [← hw17]
  have kw17 : Kp [] w16 w17 := by rw [hw17]; exact ((((Kp.refl [] w16).alloc _).alloc _).alloc _).alloc _
  have a0 : w17.heap[w16.heap.size]? = some (.cells (ints .i64 [0, 1]) 3) := by rw [hw17]; exact cells_alloc (cells_alloc (cells_alloc (heap_alloc_at rfl)))
  have a1 : w17.heap[w16.heap.size + 1]? = some (.cells (ints .i64 [12]) 2) := by rw [hw17]; exact cells_alloc (cells_alloc (heap_alloc_at (by simp)))
  have a2 : w17.heap[w16.heap.size + 1 + 1]? = some (.cells (ints .i64 [5]) 2) := by rw [hw17]; exact cells_alloc (heap_alloc_at (by simp))
  have a3 : w17.heap[w16.heap.size + 1 + 1 + 1]? = some (.cells (ints .i64 [7]) 2) := by rw [hw17]; exact heap_alloc_at (by simp)
  refine (r19Same_yes x ⟨[0, 1], some ⟨w16.heap.size, 0, none⟩, 2, 2, [⟨12, 5, 7⟩], some ⟨w16.heap.size + 1, 0, none⟩, 1, some ⟨w16.heap.size + 1 + 1, 0, none⟩, 1, some ⟨w16.heap.size + 1 + 1 + 1, 0, none⟩, 1⟩ HPp.out w17 ((HOp2.out.keep0 KG.out).keep0 kw17)
    ⟨(Own.row (zs := [0, 1]) (Nat.le_refl _) a0 (by simp)).rd, (Own.row (zs := [12]) (Nat.le_refl _) a1 (by simp)).rd, (Own.row (zs := [5]) (Nat.le_refl _) a2 (by simp)).rd, (Own.row (zs := [7]) (Nat.le_refl _) a3 (by simp)).rd⟩).mono ?_
  rintro e w18 ⟨rfl, kpw18⟩
  have Kw18 := Lib.hid (kw17.tr kpw18)
  clear a0 a1 a2 a3 hw17 kw17 kpw18
  have HL2 := Lib.hid (Kw18.out.get (KG.out.get HRq.out (by simp)) (by simp))
  go_wp2_with (refine wpList_load_row_g rfl 34 _ rfl q rfl 34 #[.slice y.ia y.ids.length y.ic, .int .i64 y.cnt, .slice y.sa y.ms.length y.sc, .slice y.la y.ms.length y.lc, .slice y.ga y.ms.length y.gc] (0, 0) _ HL2.out Try.underlying34 rfl (by kernel_rfl) ?_)
  obtain ⟨w19, hw19⟩ : ∃ u, u = ((((w18.alloc (Obj.cells #[.int .i64 (-1), .int .i64 1] 3)).alloc (Obj.cells #[.int .i64 13] 2)).alloc (Obj.cells #[.int .i64 1] 2)).alloc (Obj.cells #[.int .i64 7] 2)) := ⟨_, rfl⟩
  rw [← hw19]
  have kw19 : Kp [] w18 w19 := by rw [hw19]; exact ((((Kp.refl [] w18).alloc _).alloc _).alloc _).alloc _
  have a0 : w19.heap[w18.heap.size]? = some (.cells (ints .i64 [-1, 1]) 3) := by rw [hw19]; exact cells_alloc (cells_alloc (cells_alloc (heap_alloc_at rfl)))
  have a1 : w19.heap[w18.heap.size + 1]? = some (.cells (ints .i64 [13]) 2) := by rw [hw19]; exact cells_alloc (cells_alloc (heap_alloc_at (by simp)))
  have a2 : w19.heap[w18.heap.size + 1 + 1]? = some (.cells (ints .i64 [1]) 2) := by rw [hw19]; exact cells_alloc (heap_alloc_at (by simp))
  have a3 : w19.heap[w18.heap.size + 1 + 1 + 1]? = some (.cells (ints .i64 [7]) 2) := by rw [hw19]; exact heap_alloc_at (by simp)
  refine (r19Same_yes y ⟨[-1, 1], some ⟨w18.heap.size, 0, none⟩, 2, 3, [⟨13, 1, 7⟩], some ⟨w18.heap.size + 1, 0, none⟩, 1, some ⟨w18.heap.size + 1 + 1, 0, none⟩, 1, some ⟨w18.heap.size + 1 + 1 + 1, 0, none⟩, 1⟩ HPq.out w19 ((HOq.out.keep0 (KG.out.tr Kw18.out)).keep0 kw19)
    ⟨(Own.row (zs := [-1, 1]) (Nat.le_refl _) a0 (by simp)).rd, (Own.row (zs := [13]) (Nat.le_refl _) a1 (by simp)).rd, (Own.row (zs := [1]) (Nat.le_refl _) a2 (by simp)).rd, (Own.row (zs := [7]) (Nat.le_refl _) a3 (by simp)).rd⟩).mono ?_
  rintro e w20 ⟨rfl, kpw20⟩
  have Kw20 := Lib.hid (kw19.tr kpw20)
  clear a0 a1 a2 a3 hw19 kw19 kpw20
  have hkp : Kp [] w16 w20 := Kw18.out.tr Kw20.out
  have hkids : v.kids = [(0, 1), (1, 2), (-1, 3)] := congrArg PN.kids HV.out
  have hkn3 : v.kn = 3 := by rw [HVN.out, hkids]; rfl
  have hrow := hkp.get HRg.out (by simp)
  rw [hkn3] at hrow
  have e3 : w20.cell? ⟨g, 3, none⟩ = some (.slice v.ka 3 v.kc) := by rw [cell_of_row w20 g 3 _ _ _ hrow]; rfl
  have hrd := (HVO.out.keep0 hkp).rd kdlies
  have hcap : 3 ≤ v.kc ∧ v.kc ≤ 9223372036854775807 := ⟨by have := hrd.1; rw [hkids] at this; simpa using this, hrd.2.1⟩
  rw [hkids] at hrd
  obtain ⟨kb, ko, hka, d0, -⟩ := kids_at hrd (s := 2) (by simp)
  rw [hka] at e3
  have d0 : w20.cell? ⟨kb, ko + 2 * 2, none⟩ = some (.int .i64 (-1)) := d0
  have HKF : Hid (Kp [] w w20) := Lib.hid (((HK7.out.tr HKq.out).tr KG.out).tr hkp)
  clear hkp hkids hkn3 hrow hrd hka
  go_wp2_with fail
  go_ret
  exact ⟨rfl, HKF.out⟩
end Go.Proofs.Ythmaobmgogmaoaa
