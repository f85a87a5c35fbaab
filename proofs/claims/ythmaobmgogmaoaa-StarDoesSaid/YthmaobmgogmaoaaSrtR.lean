/-
  The library's stable sort of records (structs of ten cells): out of the one of rows, printed by wip/genSR.py.
-/
import Derived.Test.YthmaobmgogmaoaaStab
import Derived.Test.YthmaobmgogmaoaaRegionH
import Derived.Test.YthmaobmgogmaoaaRowO
import Derived.Deep.DeepCutAuto
import Derived.Deep.MidRow
namespace Go.Proofs.Ythmaobmgogmaoaa
open Go.RowKit
set_option linter.unusedSimpArgs false
set_option linter.unusedVariables false

/-- A metric's sum, least and greatest number. -/
structure S3 where
  s : Int
  l : Int
  g : Int
instance : Inhabited S3 := ⟨⟨0, 0, 0⟩⟩
/-- A record as it stands in a slice of records, and what its numbers read as. -/
structure Rc where
  ids : Nat → Int
  cnt : Int
  sa : Option Addr
  sn : Nat
  sc : Nat
  sums : List S3
instance : Inhabited Rc := ⟨⟨fun _ => 0, 0, none, 0, 0, []⟩⟩
def Rc.cells (x : Rc) : List Value := [.int .i64 (x.ids 0), .int .i64 (x.ids 1), .int .i64 (x.ids 2), .int .i64 (x.ids 3), .int .i64 (x.ids 4), .int .i64 (x.ids 5), .int .i64 (x.ids 6), .int .i64 (x.ids 7), .int .i64 x.cnt, .slice x.sa x.sn x.sc]
theorem rclies : Lies Rc.cells 10 := ⟨fun _ => rfl, fun x v hv => by simp [Rc.cells] at hv; rcases hv with rfl | rfl | rfl | rfl | rfl | rfl | rfl | rfl | rfl | rfl <;> rfl, by omega⟩
def Rc.v (x : Rc) : Value := .agg x.cells.toArray
/-- The block of a slice of records. -/
def Dat (w : World) (g : Nat) (xs : List Rc) : Prop := ∃ cur t, w.heap[g]? = some (.cells cur t (0, 0)) ∧ xs.length * 10 ≤ cur.size ∧ ∀ (i : Nat) (h : i < xs.length) (j : Nat), j < 10 → cur[i * 10 + j]? = xs[i].cells[j]?
section
variable {w w' : World} {g : Nat} {xs : List Rc}
theorem Dat.keep (h : Dat w g xs) {S : List Nat} (k : Kp S w w') (hg : g ∉ S) : Dat w' g xs :=
  let ⟨cur, t, h1, h2⟩ := h; ⟨cur, t, k.get h1 hg, h2⟩
theorem Dat.keep0 (h : Dat w g xs) (k : Kp [] w w') : Dat w' g xs := h.keep k (by simp)
theorem Dat.lt (h : Dat w g xs) : g < w.heap.size := let ⟨_, _, h1, _⟩ := h; lt_of_heap h1
theorem Dat.cell (h : Dat w g xs) {i : Nat} (hi : i < xs.length) : w.rangeAt g (i * 10) xs[i].cells ∧ w.there g (i * 10) 10 := by
  obtain ⟨cur, t, h1, h2, h3⟩ := h
  refine ⟨fun j v hv => ?_, fun j hj => ⟨?_, frozen_of_row w g _ cur t h1⟩⟩
  · rw [cell_of_row w g _ cur t _ h1, h3 i hi j (by have := (List.getElem?_eq_some_iff.1 hv).1; exact this)]; exact hv
  · rw [cell_of_row w g _ cur t _ h1, h3 i hi j hj, List.getElem?_eq_getElem (show j < xs[i].cells.length from hj)]; rfl
theorem Dat.kp (h : Dat w g xs) {i : Nat} (hi : i < xs.length) (y : Rc) : Kp [g] w (w.setCells g (i * 10) y.cells) := by
  obtain ⟨cur, t, h1, h2, h3⟩ := h
  exact (setCells_eq g t y.cells (i * 10) cur w h1 (by have : y.cells.length = 10 := rfl; omega)).2.1
theorem block_put {cur : List Value} {ys : List Value} (o k j : Nat) (hl : ys.length = 10) (ho : o * 10 + 10 ≤ cur.length) (hj : j < 10) :
    (cur.take (o * 10) ++ ys ++ cur.drop (o * 10 + ys.length))[k * 10 + j]? = if o = k then ys[j]? else cur[k * 10 + j]? := by
  have ht : (cur.take (o * 10)).length = o * 10 := by rw [List.length_take]; omega
  have ha : (cur.take (o * 10) ++ ys).length = o * 10 + 10 := by rw [List.length_append, ht, hl]
  by_cases hik : o = k
  · subst hik
    rw [if_pos rfl, List.getElem?_append_left (by rw [ha]; omega), List.getElem?_append_right (by rw [ht]; omega), ht, Nat.add_sub_cancel_left]
  · rw [if_neg hik]
    by_cases hlt : k < o
    · rw [List.getElem?_append_left (by rw [ha]; omega), List.getElem?_append_left (by rw [ht]; omega), List.getElem?_take, if_pos (by omega)]
    · rw [List.getElem?_append_right (by rw [ha]; omega), List.getElem?_drop, ha, hl]
      congr 1; omega
theorem Dat.set (h : Dat w g xs) {i : Nat} (hi : i < xs.length) (y : Rc) : Dat (w.setCells g (i * 10) y.cells) g (xs.set i y) := by
  obtain ⟨cur, t, h1, h2, h3⟩ := h
  have hl : y.cells.length = 10 := rfl
  obtain ⟨e1, -, -⟩ := setCells_eq g t y.cells (i * 10) cur w h1 (by omega)
  have hb : i * 10 + 10 ≤ cur.toList.length := by rw [Array.length_toList]; omega
  refine ⟨_, t, e1, ?_, fun k hk j hj => ?_⟩
  · rw [List.length_set, List.size_toArray, List.length_append, List.length_append, List.length_take, List.length_drop, hl]
    have e2 : cur.toList.length = cur.size := Array.length_toList
    generalize cur.toList.length = q at *
    clear e1 h3
    subst e2
    omega
  · rw [List.length_set] at hk
    rw [List.getElem?_toArray, block_put i k j hl hb hj]
    by_cases hik : i = k
    · subst hik
      rw [if_pos rfl, List.getElem_set_self]
    · rw [if_neg hik, List.getElem_set_ne hik, ← h3 k hk j hj, Array.getElem?_toList]
/-- The element behind Q. -/
theorem Dat.at (h : Dat w g xs) {Q Z : List Rc} {x : Rc} {i : Nat} (e : xs = Q ++ x :: Z) (hi : Q.length = i) : w.rangeAt g (i * 10) x.cells ∧ w.there g (i * 10) 10 := by
  subst e; subst hi
  have := h.cell (i := Q.length) (by simp)
  simpa using this
end
section
variable {P : Program}
theorem exec_ld {op : Oper} {a : Act} {w : World} {ty : TypeId} {x : Operand} (ho : op.op = .load ty x) {b o : Nat} (hx : a.eval x = .pointer (some ⟨b, o, none⟩)) {cs : List Value} {d : TypeDesc} (hc : w.rangeAt b o cs)
    (hu : P.underlying ty = some d) (hd : d.isRow = true) (hi : (P.info? ty).map (·.size) = some cs.length) : (execOp a.eval op).run P w = .ok (.value (.agg cs.toArray)) w := by
  unfold execOp
  simp only [ho, hx, Instr.loadAt, Instr.sureAddr, Sem.run_bind, Sem.run_pure, Result.andThen_ok, run_loadVar_mid w b o ty cs d hc hu hd hi]
theorem exec_st {op : Oper} {a : Act} {w : World} {ty : TypeId} {x y : Operand} (ho : op.op = .store ty x y) {b o : Nat} {cs : List Value} (hx : a.eval x = .pointer (some ⟨b, o, none⟩)) (hy : a.eval y = .agg cs.toArray)
    (ht : w.there b o cs.length) (hi : (P.info? ty).map (·.size) = some cs.length) (h1 : ∀ v ∈ cs, v.oneCell' = true) : (execOp a.eval op).run P w = .ok .skip (w.setCells b o cs) := by
  unfold execOp
  have := run_storeVar_mid (P := P) w b o ty cs.toArray (by simpa using ht) (by simpa using hi) (all_oneCell_toArray h1)
  simp only [ho, hx, hy, Instr.storeAt, Instr.sureAddr, Sem.run_bind, Sem.run_pure, Result.andThen_ok, this]
end

/-- An exchange in its three states. -/
def swst (m : Nat) (xs : List Rc) (i j : Nat) (x y : Rc) : List Rc := if m = 0 then xs else if m = 1 then xs.set i y else (xs.set i y).set j x
theorem swst_len (m : Nat) (xs : List Rc) (i j : Nat) (x y : Rc) : (swst m xs i j x y).length = xs.length := by
  unfold swst
  split
  · rfl
  · split <;> simp
theorem sw_at {g m : Nat} {W : World} {xs : List Rc} {i j : Nat} {x y : Rc} (hx : xs[i]? = some x) (hy : xs[j]? = some y) (h : Dat W g (swst m xs i j x y)) :
    (m = 0 → W.rangeAt g (i * 10) x.cells ∧ W.rangeAt g (j * 10) y.cells) ∧ W.there g (i * 10) 10 ∧ W.there g (j * 10) 10 := by
  obtain ⟨hi, hx⟩ := List.getElem?_eq_some_iff.1 hx
  obtain ⟨hj, hy⟩ := List.getElem?_eq_some_iff.1 hy
  have hl := swst_len m xs i j x y
  have h1 := h.cell (i := i) (by omega)
  have h2 := h.cell (i := j) (by omega)
  refine ⟨fun hm => ?_, h1.2, h2.2⟩
  subst hm
  have h1 := h1.1
  have h2 := h2.1
  simp only [swst, if_pos] at h1 h2
  rw [hx] at h1
  rw [hy] at h2
  exact ⟨h1, h2⟩
theorem sw_back (Q Z : List Rc) (x y : Rc) (j : Nat) (h : Q.length = j) : swst 2 (Q ++ y :: x :: Z) (j + 1) j x y = Q ++ x :: y :: Z := by
  subst h
  have e1 : (Q ++ y :: x :: Z).set (Q.length + 1) y = Q ++ y :: y :: Z := by rw [List.set_append_right _ _ (by omega)]; simp
  have e2 : (Q ++ y :: y :: Z).set Q.length x = Q ++ x :: y :: Z := by rw [List.set_append_right _ _ (by omega)]; simp
  show ((Q ++ y :: x :: Z).set (Q.length + 1) y).set Q.length x = _
  rw [e1, e2]
theorem sw_one {g : Nat} {W : World} {xs : List Rc} {i j : Nat} {x y x' : Rc} (hx : xs[i]? = some x') (h : Dat W g (swst 0 xs i j x y)) : Kp [g] W (W.setCells g (i * 10) y.cells) ∧ Dat (W.setCells g (i * 10) y.cells) g (swst 1 xs i j x y) := by
  have hi : i < (swst 0 xs i j x y).length := (List.getElem?_eq_some_iff.1 hx).1
  exact ⟨h.kp hi y, h.set hi y⟩
theorem sw_two {g : Nat} {W : World} {xs : List Rc} {i j : Nat} {x y y' : Rc} (hy : xs[j]? = some y') (h : Dat W g (swst 1 xs i j x y)) : Kp [g] W (W.setCells g (j * 10) x.cells) ∧ Dat (W.setCells g (j * 10) x.cells) g (swst 2 xs i j x y) := by
  have hj : j < (swst 1 xs i j x y).length := by rw [swst_len]; exact (List.getElem?_eq_some_iff.1 hy).1
  exact ⟨h.kp hj x, h.set hj x⟩

/-- What a comparison of rows must do: it tells c, and leaves what there was. -/
structure CmpOk (g : Nat) (w0 : World) (U : Rc → Prop) (fc : Nat) (lb : Array Value) (c : Rc → Rc → Int) : Prop where
  enters : ∀ args w, (callFunc fc args).run Try.prog w = .ok (.enter fc args) w
  tells : ∀ W, Kp [g] w0 W → ∀ x y, U x → U y → Calls Try.prog fc (#[x.v, y.v] ++ lb) W fun e w' => e = .returned (.int .i64 (c x y)) ∧ Kp [] W w'
  rng : ∀ x y, -9223372036854775808 ≤ c x y ∧ c x y ≤ 9223372036854775807
def ltc (c : Rc → Rc → Int) (x y : Rc) : Bool := decide (c x y < 0)

set_option maxHeartbeats 1600000 in
set_option maxRecDepth 100000 in
/-- Insertion sort of a stretch. -/
theorem insort_any (g N cap a b fc : Nat) (lb : Array Value) (c : Rc → Rc → Int) (U : Rc → Prop) (w0 : World) (hc : CmpOk g w0 U fc lb c) (hs : Swo (ltc c)) (P A T : List Rc) (ha : P.length = a) (hb : (P ++ A).length = b) (hN : (P ++ (A ++ T)).length = N) (hNb : N ≤ 1000000)
    (hU : ∀ x ∈ A, U x) (w : World) (hd : Dat w g (P ++ (A ++ T))) (hk : Kp [g] w0 w) (hcap : N ≤ cap) :
    Calls Try.prog 66 #[.slice (some ⟨g, 0, none⟩) N cap, .int .i64 (a : Int), .int .i64 (b : Int), .func (.func fc) #[] lb] w fun e w' => (∃ v, e = .returned v) ∧ ∃ R, Stab (ltc c) A R ∧ Dat w' g (P ++ (R ++ T)) ∧ Kp [g] w w' := by
  have HC := Lib.hid hc
  have HS := Lib.hid hs
  have HU := Lib.hid hU
  have HD := Lib.hid hd
  have HK := Lib.hid hk
  have HA := Lib.hid ha
  have HB := Lib.hid hb
  have HN := Lib.hid hN
  have hab : b ≤ N := by rw [← hb, ← hN]; simp
  have haN : a ≤ b := by rw [← hb, ← ha]; simp
  have hlen : a + A.length = b := by rw [← hb, ← ha]; simp
  have HL := Lib.hid hlen
  clear hc hs hU hd hk ha hb hN hlen
  go_enter Try.func66, Try.ntmps66
  go_wp2_with fail
  go_loopw [8] (fun vi wr => ∃ (k : Nat) (A1 A2 R1 : List Rc), vi = .int .i64 k ∧ Hid (A = A1 ++ A2) ∧ Hid (Stab (ltc c) A1 R1) ∧ Hid (R1.length = A1.length) ∧ Hid (k = a + max 1 A1.length) ∧ Hid (A1 = [] → A2 = []) ∧ k ≤ b + 1 ∧ Hid (Dat wr g (P ++ (R1 ++ (A2 ++ T)))) ∧ Hid (Kp [g] w wr)) (fun vi _ => b + 1 - (intOf vi).toNat)
  case atStart =>
    cases A with
    | nil => exact ⟨a + 1, [], [], [], by simp, Lib.hid rfl, Lib.hid Stab.nil, Lib.hid rfl, Lib.hid rfl, Lib.hid (fun _ => rfl), by omega, HD, Lib.hid (Kp.refl _ _)⟩
    | cons x0 A0 => exact ⟨a + 1, [x0], A0, [x0], by simp, Lib.hid rfl, Lib.hid (Stab.one x0), Lib.hid rfl, Lib.hid rfl, Lib.hid (fun h => by cases h), by have := HL.out; simp at this; omega, HD, Lib.hid (Kp.refl _ _)⟩
  case round =>
    obtain ⟨k, A1, A2, R1, rfl, HE, HST, HRL, HKK, HNE, hkb, HDR, HKR⟩ := hrel
    by_cases hlt : k < b
    · obtain ⟨x, A2', hA2⟩ : ∃ x A2', A2 = x :: A2' := by
        cases A2 with
        | cons x A2' => exact ⟨x, A2', rfl⟩
        | nil =>
          exfalso
          have h1 := HE.out
          have h2 := HL.out
          have h3 := HKK.out
          rw [h1] at h2
          simp at h2
          omega
      subst hA2
      have hk1 : k = a + R1.length := by
        have h1 : A1 ≠ [] := fun h => by have := HNE.out h; cases this
        have h2 : 0 < A1.length := List.length_pos_iff.2 h1
        rw [HKK.out, HRL.out]; omega
      have HK1 := Lib.hid hk1
      have HXU : Hid (U x ∧ ∀ y ∈ R1, U y) := Lib.hid ⟨HU.out x (by rw [HE.out]; simp), fun y hy => HU.out y (by rw [HE.out]; exact List.mem_append_left _ (HST.out.mem HS.out hy))⟩
      clear hk1 hkb
      go_upto_region 4 with (fail)
      obtain ⟨wo, rfl⟩ : ∃ wo : World, wo = wr := ⟨_, rfl⟩
      have HNX : Hid (∀ W (L R : List Rc), R1 = L ++ R → (∀ y ∈ R, ltc c x y = true) → (∀ y ∈ L, ltc c x y = false) → Dat W g (P ++ (L ++ x :: (R ++ (A2' ++ T)))) → Kp [g] wo W →
          ∃ (k' : Nat) (A1 A2 R1 : List Rc), Value.int .i64 ((k : Int) + 1) = .int .i64 k' ∧ Hid (A = A1 ++ A2) ∧ Hid (Stab (ltc c) A1 R1) ∧ Hid (R1.length = A1.length) ∧ Hid (k' = a + max 1 A1.length) ∧ Hid (A1 = [] → A2 = []) ∧ k' ≤ b + 1 ∧ Hid (Dat W g (P ++ (R1 ++ (A2 ++ T)))) ∧ Hid (Kp [g] w W)) :=
        Lib.hid (fun W L R hLR hRx hLx hD hKW => by
          refine ⟨k + 1, A1 ++ [x], A2', L ++ x :: R, by simp, Lib.hid (by rw [HE.out]; simp), Lib.hid (stab_put HS.out (by rw [← hLR]; exact HST.out) hRx hLx), Lib.hid ?_, Lib.hid ?_, Lib.hid (fun h => by simp at h), by omega, Lib.hid (by simpa using hD), Lib.hid (HKR.out.trans hKW (by simp) (by simp))⟩
          · have := HRL.out; rw [hLR] at this; simp at this ⊢; omega
          · have := HK1.out; have h2 := HRL.out; simp; omega)
      go_loopw [9] (fun vj wr => ∃ (j : Nat) (L R : List Rc), vj = .int .i64 j ∧ Hid (R1 = L ++ R) ∧ Hid (∀ y ∈ R, ltc c x y = true) ∧ Hid (a + L.length = j) ∧ j ≤ k ∧ a ≤ j ∧ Hid (Dat wr g (P ++ (L ++ x :: (R ++ (A2' ++ T))))) ∧ Hid (Kp [g] wo wr)) (fun vj _ => (intOf vj).toNat)
      case atStart => exact ⟨k, R1, [], rfl, Lib.hid (by simp), Lib.hid (by simp), Lib.hid HK1.out.symm, Nat.le_refl _, by have := HK1.out; omega, HDR, Lib.hid (Kp.refl _ _)⟩
      case round =>
        obtain ⟨j, L, R, rfl, HLR, HGT, HJ, hjk, haj, HDJ, HKJ⟩ := hrel
        have heg := HC.out.enters
        have hjN : j < N := by omega
        rcases List.eq_nil_or_concat L with rfl | ⟨L', y, hLc⟩
        · have hja : j = a := by have := HJ.out; simp at this; omega
          subst hja
          go_upto_region 4 with (fail)
          refine wp_region_K (by kernel_rfl) [.val (.int .i64 (j : Int)), .val (.int .i64 (j : Int)), .val (.bool false), .val (.bool false), .val (undef), .val (undef), .val (undef), .val (undef), .val (undef), .val (undef), .val (undef), .val (undef), .val (undef), .val (undef), .val (undef), .val (undef), .val ((.bool false))] [[(9, none)], [(1, none)], [(18, some 0), (19, some 1)], [(20, some 2)], [(21, some 3)], [(21, some 3)], [(21, some 3)], [(21, some 3)], [(21, some 3)], [(21, some 3)], [(21, some 3)], [(21, some 3)], [(21, some 3)], [(21, some 3)], [(21, some 3)], [(21, some 3)], [(21, some 3), (33, some 15)]] rfl (by kernel_rfl) ?_ ?_
          · refine ⟨?o0, ?o1, ?o2, ?o3, ?o4, ?o5, ?o6, ?o7, ?o8, ?o9, ?o10, ?o11, ?o12, ?o13, ?o14, ?o15, ?o16, trivial⟩
            case o0 => intro aR wR hR; replace hR := hR.undrew; intro (h9 : aR.tmps[9]? = some (.int .i64 (j : Int))); exact exec_val (c := .int .i64 (j : Int)) (wanted_none rfl) (by go_simp) rfl
            case o1 => intro aR wR hR; replace hR := hR.undrew; intro (h1 : aR.tmps[1]? = some (.int .i64 (j : Int))); exact exec_val (c := .int .i64 (j : Int)) (wanted_none rfl) (by go_simp) rfl
            case o2 => intro aR wR hR; replace hR := hR.undrew; intro v18 h18 e18; replace e18 : v18 = .int .i64 (j : Int) := e18; subst e18; intro v19 h19 e19; replace e19 : v19 = .int .i64 (j : Int) := e19; subst e19; exact exec_val (c := .bool false) (wanted_none rfl) (by go_simp) rfl
            case o3 => intro aR wR hR; replace hR := hR.undrew; intro v20 h20 e20; replace e20 : v20 = .bool false := e20; subst e20; exact exec_val (c := .bool false) (wanted_none rfl) (by go_simp) rfl
            case o4 => intro aR wR hR; replace hR := hR.undrew; intro v21 h21 e21; replace e21 : v21 = .bool false := e21; subst e21; exact exec_pass (wanted_not (b := true) (t := 21) rfl rfl h21) rfl
            case o5 => intro aR wR hR; replace hR := hR.undrew; intro v21 h21 e21; replace e21 : v21 = .bool false := e21; subst e21; exact exec_pass (wanted_not (b := true) (t := 21) rfl rfl h21) rfl
            case o6 => intro aR wR hR; replace hR := hR.undrew; intro v21 h21 e21; replace e21 : v21 = .bool false := e21; subst e21; exact exec_pass (wanted_not (b := true) (t := 21) rfl rfl h21) rfl
            case o7 => intro aR wR hR; replace hR := hR.undrew; intro v21 h21 e21; replace e21 : v21 = .bool false := e21; subst e21; exact exec_pass (wanted_not (b := true) (t := 21) rfl rfl h21) rfl
            case o8 => intro aR wR hR; replace hR := hR.undrew; intro v21 h21 e21; replace e21 : v21 = .bool false := e21; subst e21; exact exec_pass (wanted_not (b := true) (t := 21) rfl rfl h21) rfl
            case o9 => intro aR wR hR; replace hR := hR.undrew; intro v21 h21 e21; replace e21 : v21 = .bool false := e21; subst e21; exact exec_pass (wanted_not (b := true) (t := 21) rfl rfl h21) rfl
            case o10 => intro aR wR hR; replace hR := hR.undrew; intro v21 h21 e21; replace e21 : v21 = .bool false := e21; subst e21; exact exec_pass (wanted_not (b := true) (t := 21) rfl rfl h21) rfl
            case o11 => intro aR wR hR; replace hR := hR.undrew; intro v21 h21 e21; replace e21 : v21 = .bool false := e21; subst e21; exact exec_pass (wanted_not (b := true) (t := 21) rfl rfl h21) rfl
            case o12 => intro aR wR hR; replace hR := hR.undrew; intro v21 h21 e21; replace e21 : v21 = .bool false := e21; subst e21; exact exec_pass (wanted_not (b := true) (t := 21) rfl rfl h21) rfl
            case o13 => intro aR wR hR; replace hR := hR.undrew; intro v21 h21 e21; replace e21 : v21 = .bool false := e21; subst e21; exact exec_pass (wanted_not (b := true) (t := 21) rfl rfl h21) rfl
            case o14 => intro aR wR hR; replace hR := hR.undrew; intro v21 h21 e21; replace e21 : v21 = .bool false := e21; subst e21; exact exec_pass (wanted_not (b := true) (t := 21) rfl rfl h21) rfl
            case o15 => intro aR wR hR; replace hR := hR.undrew; intro v21 h21 e21; replace e21 : v21 = .bool false := e21; subst e21; exact exec_pass (wanted_not (b := true) (t := 21) rfl rfl h21) rfl
            case o16 => intro aR wR hR; replace hR := hR.undrew; intro v21 h21 e21; replace e21 : v21 = .bool false := e21; subst e21; intro v33 h33 e33; replace e33 : v33 = undef := e33; subst e33; exact exec_val (c := (.bool false)) (wanted_none rfl) (by go_simp) rfl
          · intro vs wR hR hV
            obtain ⟨e0, e1, e2, e3, e4, e5, e6, e7, e8, e9, e10, e11, e12, e13, e14, e15, e16, -⟩ := hV
            replace e0 : vs 0 = .int .i64 (j : Int) := e0
            replace e1 : vs 1 = .int .i64 (j : Int) := e1
            replace e2 : vs 2 = .bool false := e2
            replace e3 : vs 3 = .bool false := e3
            replace e4 : vs 4 = undef := e4
            replace e5 : vs 5 = undef := e5
            replace e6 : vs 6 = undef := e6
            replace e7 : vs 7 = undef := e7
            replace e8 : vs 8 = undef := e8
            replace e9 : vs 9 = undef := e9
            replace e10 : vs 10 = undef := e10
            replace e11 : vs 11 = undef := e11
            replace e12 : vs 12 = undef := e12
            replace e13 : vs 13 = undef := e13
            replace e14 : vs 14 = undef := e14
            replace e15 : vs 15 = undef := e15
            replace e16 : vs 16 = (.bool false) := e16
            simp only [putAll, e0, e1, e2, e3, e4, e5, e6, e7, e8, e9, e10, e11, e12, e13, e14, e15, e16, Nat.reduceAdd, Nat.zero_add]
            clear e0 e1 e2 e3 e4 e5 e6 e7 e8 e9 e10 e11 e12 e13 e14 e15 e16
            try simp only [List.setIfInBounds_toArray, List.set_cons_succ, List.set_cons_zero]
            go_wp2_with fail
            go_roundw
            case rel => exact HNX.out _ [] R HLR.out HGT.out (by simp) (HDJ.out.keep0 hR) (HKJ.out.trans hR (by simp) (by simp))
            case measure => simp [intOf]; omega
        · rw [List.concat_eq_append] at hLc
          subst hLc
          obtain ⟨j1, hj1⟩ : ∃ j1, j = j1 + 1 := ⟨j - 1, by have := HJ.out; simp at this; omega⟩
          subst hj1
          have hw1 : IntKind.i64.wrap (((j1 + 1 : Nat) : Int) - 1) = (j1 : Int) := by rw [IntWalk.i64_in _ (by omega)]; omega
          have hw2 : wrap64 (((j1 + 1 : Nat) : Int) - 1) = (j1 : Int) := by unfold wrap64; omega
          have hgt : (j1 + 1 : Nat) > a := by have := HJ.out; simp at this; omega
          have hgt' : ((j1 + 1 : Nat) : Int) > (a : Int) := by omega
          obtain ⟨q, hq⟩ : ∃ q, q = j1 + 1 := ⟨_, rfl⟩
          rw [← hq] at hw1 hw2 hgt hgt' hjN ⊢
          have hq1 : j1 < N := by omega
          have HQ := Lib.hid hq
          have CX : Hid (∀ W, Dat W g (P ++ ((L' ++ [y]) ++ x :: (R ++ (A2' ++ T)))) → W.rangeAt g (q * 10) x.cells ∧ W.rangeAt g (j1 * 10) y.cells) := Lib.hid (fun W h => by
            have := HJ.out
            have := HA.out
            simp at *
            exact ⟨(h.at (Q := P ++ (L' ++ [y])) (Z := R ++ (A2' ++ T)) (x := x) (by simp) (by simp; omega)).1, (h.at (Q := P ++ L') (Z := x :: (R ++ (A2' ++ T))) (x := y) (by simp) (by simp; omega)).1⟩)
          obtain ⟨cv, hcv⟩ : ∃ v, v = c x y := ⟨_, rfl⟩
          have HCV := Lib.hid hcv
          have hcr : -9223372036854775808 ≤ cv ∧ cv ≤ 9223372036854775807 := by rw [hcv]; exact HC.out.rng x y
          clear hq hcv
          go_upto_region 4 with (fail)
          refine wp_region_K (by kernel_rfl) [.val (.int .i64 (q : Int)), .val (.int .i64 (a : Int)), .val (.bool true), .val (.bool true), .val (.func (.func fc) #[] lb), .val (.slice (some ⟨g, 0, none⟩) N cap), .val (.int .i64 (q : Int)), .val (.pointer (some ⟨g, q * 10, none⟩)), .val (x.v), .val (.slice (some ⟨g, 0, none⟩) N cap), .val (.int .i64 (q : Int)), .val (.int .i64 (j1 : Int)), .val (.pointer (some ⟨g, j1 * 10, none⟩)), .val (y.v), .val (.int .i64 cv), .val (.bool (decide (cv < 0))), .val (.bool (decide (cv < 0)))] [[(9, none)], [(1, none)], [(18, some 0), (19, some 1)], [(20, some 2)], [(21, some 3), (3, none)], [(21, some 3), (0, none)], [(21, some 3), (9, none)], [(21, some 3), (23, some 5), (24, some 6)], [(21, some 3), (25, some 7)], [(21, some 3), (0, none)], [(21, some 3), (9, none)], [(21, some 3), (28, some 10)], [(21, some 3), (27, some 9), (29, some 11)], [(21, some 3), (30, some 12)], [(21, some 3), (22, some 4), (26, some 8), (31, some 13)], [(21, some 3), (32, some 14)], [(21, some 3), (33, some 15)]] rfl (by kernel_rfl) ?_ ?_
          · refine ⟨?o0, ?o1, ?o2, ?o3, ?o4, ?o5, ?o6, ?o7, ?o8, ?o9, ?o10, ?o11, ?o12, ?o13, ?o14, ?o15, ?o16, trivial⟩
            case o0 => intro aR wR hR; replace hR := hR.undrew; intro (h9 : aR.tmps[9]? = some (.int .i64 (q : Int))); exact exec_val (c := .int .i64 (q : Int)) (wanted_none rfl) (by go_simp) rfl
            case o1 => intro aR wR hR; replace hR := hR.undrew; intro (h1 : aR.tmps[1]? = some (.int .i64 (a : Int))); exact exec_val (c := .int .i64 (a : Int)) (wanted_none rfl) (by go_simp) rfl
            case o2 => intro aR wR hR; replace hR := hR.undrew; intro v18 h18 e18; replace e18 : v18 = .int .i64 (q : Int) := e18; subst e18; intro v19 h19 e19; replace e19 : v19 = .int .i64 (a : Int) := e19; subst e19; exact exec_val (c := .bool true) (wanted_none rfl) (by go_simp) rfl
            case o3 => intro aR wR hR; replace hR := hR.undrew; intro v20 h20 e20; replace e20 : v20 = .bool true := e20; subst e20; exact exec_val (c := .bool true) (wanted_none rfl) (by go_simp) rfl
            case o4 => intro aR wR hR; replace hR := hR.undrew; intro v21 h21 e21; replace e21 : v21 = .bool true := e21; subst e21; intro (h3 : aR.tmps[3]? = some (.func (.func fc) #[] lb)); exact exec_val (c := .func (.func fc) #[] lb) (wanted_yes (b := true) (t := 21) rfl rfl h21) (by go_simp) rfl
            case o5 => intro aR wR hR; replace hR := hR.undrew; intro v21 h21 e21; replace e21 : v21 = .bool true := e21; subst e21; intro (h0 : aR.tmps[0]? = some (.slice (some ⟨g, 0, none⟩) N cap)); exact exec_val (c := .slice (some ⟨g, 0, none⟩) N cap) (wanted_yes (b := true) (t := 21) rfl rfl h21) (by go_simp) rfl
            case o6 => intro aR wR hR; replace hR := hR.undrew; intro v21 h21 e21; replace e21 : v21 = .bool true := e21; subst e21; intro (h9 : aR.tmps[9]? = some (.int .i64 (q : Int))); exact exec_val (c := .int .i64 (q : Int)) (wanted_yes (b := true) (t := 21) rfl rfl h21) (by go_simp) rfl
            case o7 => intro aR wR hR; replace hR := hR.undrew; intro v21 h21 e21; replace e21 : v21 = .bool true := e21; subst e21; intro v23 h23 e23; replace e23 : v23 = .slice (some ⟨g, 0, none⟩) N cap := e23; subst e23; intro v24 h24 e24; replace e24 : v24 = .int .i64 (q : Int) := e24; subst e24; exact exec_val (c := .pointer (some ⟨g, q * 10, none⟩)) (wanted_yes (b := true) (t := 21) rfl rfl h21) (by go_simp) rfl
            case o8 => intro aR wR hR; replace hR := hR.undrew; intro v21 h21 e21; replace e21 : v21 = .bool true := e21; subst e21; intro v25 h25 e25; replace e25 : v25 = .pointer (some ⟨g, q * 10, none⟩) := e25; subst e25; have hcc := (CX.out wR (HDJ.out.keep0 hR)).1; exact exec_val (c := x.v) (wanted_yes (b := true) (t := 21) rfl rfl h21) (exec_ld rfl (b := g) (o := q * 10) (by go_simp) hcc Try.underlying82 rfl (by kernel_rfl)) rfl
            case o9 => intro aR wR hR; replace hR := hR.undrew; intro v21 h21 e21; replace e21 : v21 = .bool true := e21; subst e21; intro (h0 : aR.tmps[0]? = some (.slice (some ⟨g, 0, none⟩) N cap)); exact exec_val (c := .slice (some ⟨g, 0, none⟩) N cap) (wanted_yes (b := true) (t := 21) rfl rfl h21) (by go_simp) rfl
            case o10 => intro aR wR hR; replace hR := hR.undrew; intro v21 h21 e21; replace e21 : v21 = .bool true := e21; subst e21; intro (h9 : aR.tmps[9]? = some (.int .i64 (q : Int))); exact exec_val (c := .int .i64 (q : Int)) (wanted_yes (b := true) (t := 21) rfl rfl h21) (by go_simp) rfl
            case o11 => intro aR wR hR; replace hR := hR.undrew; intro v21 h21 e21; replace e21 : v21 = .bool true := e21; subst e21; intro v28 h28 e28; replace e28 : v28 = .int .i64 (q : Int) := e28; subst e28; exact exec_val (c := .int .i64 (j1 : Int)) (wanted_yes (b := true) (t := 21) rfl rfl h21) (by go_simp) rfl
            case o12 => intro aR wR hR; replace hR := hR.undrew; intro v21 h21 e21; replace e21 : v21 = .bool true := e21; subst e21; intro v27 h27 e27; replace e27 : v27 = .slice (some ⟨g, 0, none⟩) N cap := e27; subst e27; intro v29 h29 e29; replace e29 : v29 = .int .i64 (j1 : Int) := e29; subst e29; exact exec_val (c := .pointer (some ⟨g, j1 * 10, none⟩)) (wanted_yes (b := true) (t := 21) rfl rfl h21) (by go_simp) rfl
            case o13 => intro aR wR hR; replace hR := hR.undrew; intro v21 h21 e21; replace e21 : v21 = .bool true := e21; subst e21; intro v30 h30 e30; replace e30 : v30 = .pointer (some ⟨g, j1 * 10, none⟩) := e30; subst e30; have hcc := (CX.out wR (HDJ.out.keep0 hR)).2; exact exec_val (c := y.v) (wanted_yes (b := true) (t := 21) rfl rfl h21) (exec_ld rfl (b := g) (o := j1 * 10) (by go_simp) hcc Try.underlying82 rfl (by kernel_rfl)) rfl
            case o14 => intro aR wR hR; replace hR := hR.undrew; intro v21 h21 e21; replace e21 : v21 = .bool true := e21; subst e21; intro v22 h22 e22; replace e22 : v22 = .func (.func fc) #[] lb := e22; subst e22; intro v26 h26 e26; replace e26 : v26 = x.v := e26; subst e26; intro v31 h31 e31; replace e31 : v31 = y.v := e31; subst e31; refine exec_call (wanted_yes (b := true) (t := 21) rfl rfl h21) (by go_simp; exact ⟨rfl, rfl⟩) ?_; refine (HC.out.tells wR (((HK.out.trans HKR.out (U := [g]) (by simp) (by simp)).trans HKJ.out (U := [g]) (by simp) (by simp)).trans hR (U := [g]) (by simp) (by simp)) x y HXU.out.1 (HXU.out.2 y (by rw [HLR.out]; simp))).mono ?_; rintro e7 w8 ⟨rfl, kp8⟩; exact ⟨_, rfl, by rw [HCV.out]; rfl, kp8⟩
            case o15 => intro aR wR hR; replace hR := hR.undrew; intro v21 h21 e21; replace e21 : v21 = .bool true := e21; subst e21; intro v32 h32 e32; replace e32 : v32 = .int .i64 cv := e32; subst e32; exact exec_val (c := .bool (decide (cv < 0))) (wanted_yes (b := true) (t := 21) rfl rfl h21) (by go_simp) rfl
            case o16 => intro aR wR hR; replace hR := hR.undrew; intro v21 h21 e21; replace e21 : v21 = .bool true := e21; subst e21; intro v33 h33 e33; replace e33 : v33 = .bool (decide (cv < 0)) := e33; subst e33; exact exec_val (c := .bool (decide (cv < 0))) (wanted_none rfl) (by go_simp) rfl
          · intro vs wR hR hV
            obtain ⟨e0, e1, e2, e3, e4, e5, e6, e7, e8, e9, e10, e11, e12, e13, e14, e15, e16, -⟩ := hV
            replace e0 : vs 0 = .int .i64 (q : Int) := e0
            replace e1 : vs 1 = .int .i64 (a : Int) := e1
            replace e2 : vs 2 = .bool true := e2
            replace e3 : vs 3 = .bool true := e3
            replace e4 : vs 4 = .func (.func fc) #[] lb := e4
            replace e5 : vs 5 = .slice (some ⟨g, 0, none⟩) N cap := e5
            replace e6 : vs 6 = .int .i64 (q : Int) := e6
            replace e7 : vs 7 = .pointer (some ⟨g, q * 10, none⟩) := e7
            replace e8 : vs 8 = x.v := e8
            replace e9 : vs 9 = .slice (some ⟨g, 0, none⟩) N cap := e9
            replace e10 : vs 10 = .int .i64 (q : Int) := e10
            replace e11 : vs 11 = .int .i64 (j1 : Int) := e11
            replace e12 : vs 12 = .pointer (some ⟨g, j1 * 10, none⟩) := e12
            replace e13 : vs 13 = y.v := e13
            replace e14 : vs 14 = .int .i64 cv := e14
            replace e15 : vs 15 = .bool (decide (cv < 0)) := e15
            replace e16 : vs 16 = .bool (decide (cv < 0)) := e16
            simp only [putAll, e0, e1, e2, e3, e4, e5, e6, e7, e8, e9, e10, e11, e12, e13, e14, e15, e16, Nat.reduceAdd, Nat.zero_add]
            clear e0 e1 e2 e3 e4 e5 e6 e7 e8 e9 e10 e11 e12 e13 e14 e15 e16
            try simp only [List.setIfInBounds_toArray, List.set_cons_succ, List.set_cons_zero]
            have HDR2 := Lib.hid (HDJ.out.keep0 hR)
            have HKR2 := Lib.hid (show Kp [g] wo wR from HKJ.out.trans hR (by simp) (by simp))
            clear hw1 hw2 heg
            by_cases hcl : cv < 0
            · have hlx : ltc c x y = true := by unfold ltc; rw [← HCV.out]; simpa using hcl
              have HLX := Lib.hid hlx
              have hdc : decide (cv < 0) = true := by simpa using hcl
              obtain ⟨w5, hw5⟩ : ∃ w5, w5 = wR := ⟨_, rfl⟩
              rw [← hw5] at HDR2 HKR2 ⊢
              clear hlx hw5 hR
              have hw1 : IntKind.i64.wrap ((q : Int) - 1) = (j1 : Int) := by rw [HQ.out, IntWalk.i64_in _ (by omega)]; omega
              have hgl : q ≤ N := by omega
              obtain ⟨xs, hxs⟩ : ∃ xs, xs = P ++ ((L' ++ [y]) ++ x :: (R ++ (A2' ++ T))) := ⟨_, rfl⟩
              rw [← hxs] at HDR2
              have hPL : (P ++ L').length = j1 := by have h1 := HJ.out; have h2 := HA.out; have h3 := HQ.out; simp at h1 ⊢; omega
              have HX1 : Hid (xs[q]? = some x) := Lib.hid (by
                rw [hxs, show P ++ ((L' ++ [y]) ++ x :: (R ++ (A2' ++ T))) = (P ++ L' ++ [y]) ++ x :: (R ++ (A2' ++ T)) by simp, List.getElem?_append_right (by simp at hPL ⊢; have := HQ.out; omega), show q - (P ++ L' ++ [y]).length = 0 by simp at hPL ⊢; have := HQ.out; omega]; rfl)
              have HY1 : Hid (xs[j1]? = some y) := Lib.hid (by
                rw [hxs, show P ++ ((L' ++ [y]) ++ x :: (R ++ (A2' ++ T))) = (P ++ L') ++ y :: x :: (R ++ (A2' ++ T)) by simp, List.getElem?_append_right (by omega), show j1 - (P ++ L').length = 0 by omega]; rfl)
              have HSW : Hid (swst 2 xs q j1 x y = P ++ (L' ++ x :: ((y :: R) ++ (A2' ++ T)))) := Lib.hid (by
                have hq := HQ.out
                rw [hxs, show P ++ ((L' ++ [y]) ++ x :: (R ++ (A2' ++ T))) = (P ++ L') ++ y :: x :: (R ++ (A2' ++ T)) by simp]
                subst hq
                rw [sw_back _ _ _ _ _ hPL]
                simp)
              clear hxs hPL
              go_upto_region 6 with (fail)
              refine wp_region_HS (by kernel_rfl) [g] [.val (.slice (some ⟨g, 0, none⟩) N cap), .val (.int .i64 (q : Int)), .val (.slice (some ⟨g, 0, none⟩) N cap), .val (.int .i64 (q : Int)), .val (.int .i64 (j1 : Int)), .val (.slice (some ⟨g, 0, none⟩) N cap), .val (.int .i64 (q : Int)), .val (.int .i64 (j1 : Int)), .val (.pointer (some ⟨g, j1 * 10, none⟩)), .val (y.v), .val (.slice (some ⟨g, 0, none⟩) N cap), .val (.int .i64 (q : Int)), .val (.pointer (some ⟨g, q * 10, none⟩)), .val (x.v), .val (.pointer (some ⟨g, q * 10, none⟩)), .any, .val (.pointer (some ⟨g, j1 * 10, none⟩)), .any] [[(0, none)], [(9, none)], [(0, none)], [(9, none)], [(40, some 3)], [(0, none)], [(9, none)], [(43, some 6)], [(42, some 5), (44, some 7)], [(45, some 8)], [(0, none)], [(9, none)], [(47, some 10), (48, some 11)], [(49, some 12)], [(37, some 0), (38, some 1)], [(51, some 14), (46, some 9)], [(39, some 2), (41, some 4)], [(52, some 16), (50, some 13)]] [15, 17] (fun m wx => Dat wx g (swst m xs q j1 x y)) 18 rfl (by kernel_rfl) (by kernel_rfl) (by kernel_rfl) (by kernel_rfl) (by kernel_rfl) (by simp) (fun _ _ _ h k => h.keep0 k) (HDR2.out) ?_ ?_
              · refine (ObH.free rfl ?o0 (ObH.free rfl ?o1 (ObH.free rfl ?o2 (ObH.free rfl ?o3 (ObH.free rfl ?o4 (ObH.free rfl ?o5 (ObH.free rfl ?o6 (ObH.free rfl ?o7 (ObH.free rfl ?o8 (ObH.free rfl ?o9 (ObH.free rfl ?o10 (ObH.free rfl ?o11 (ObH.free rfl ?o12 (ObH.free rfl ?o13 (ObH.free rfl ?o14 (ObH.chain 0 rfl ?o15 (ObH.free rfl ?o16 (ObH.chain 1 rfl ?o17 trivial))))))))))))))))))
                case o0 => intro aR wR mR hbd hR hI; replace hR := hR.undrew; intro (h0 : aR.tmps[0]? = some (.slice (some ⟨g, 0, none⟩) N cap)); exact exec_val (c := .slice (some ⟨g, 0, none⟩) N cap) (wanted_none rfl) (by go_simp) rfl
                case o1 => intro aR wR mR hbd hR hI; replace hR := hR.undrew; intro (h9 : aR.tmps[9]? = some (.int .i64 (q : Int))); exact exec_val (c := .int .i64 (q : Int)) (wanted_none rfl) (by go_simp) rfl
                case o2 => intro aR wR mR hbd hR hI; replace hR := hR.undrew; intro (h0 : aR.tmps[0]? = some (.slice (some ⟨g, 0, none⟩) N cap)); exact exec_val (c := .slice (some ⟨g, 0, none⟩) N cap) (wanted_none rfl) (by go_simp) rfl
                case o3 => intro aR wR mR hbd hR hI; replace hR := hR.undrew; intro (h9 : aR.tmps[9]? = some (.int .i64 (q : Int))); exact exec_val (c := .int .i64 (q : Int)) (wanted_none rfl) (by go_simp) rfl
                case o4 => intro aR wR mR hbd hR hI; replace hR := hR.undrew; intro v40 h40 e40; replace e40 : v40 = .int .i64 (q : Int) := e40; subst e40; exact exec_val (c := .int .i64 (j1 : Int)) (wanted_none rfl) (by go_simp) rfl
                case o5 => intro aR wR mR hbd hR hI; replace hR := hR.undrew; intro (h0 : aR.tmps[0]? = some (.slice (some ⟨g, 0, none⟩) N cap)); exact exec_val (c := .slice (some ⟨g, 0, none⟩) N cap) (wanted_none rfl) (by go_simp) rfl
                case o6 => intro aR wR mR hbd hR hI; replace hR := hR.undrew; intro (h9 : aR.tmps[9]? = some (.int .i64 (q : Int))); exact exec_val (c := .int .i64 (q : Int)) (wanted_none rfl) (by go_simp) rfl
                case o7 => intro aR wR mR hbd hR hI; replace hR := hR.undrew; intro v43 h43 e43; replace e43 : v43 = .int .i64 (q : Int) := e43; subst e43; exact exec_val (c := .int .i64 (j1 : Int)) (wanted_none rfl) (by go_simp) rfl
                case o8 => intro aR wR mR hbd hR hI; replace hR := hR.undrew; intro v42 h42 e42; replace e42 : v42 = .slice (some ⟨g, 0, none⟩) N cap := e42; subst e42; intro v44 h44 e44; replace e44 : v44 = .int .i64 (j1 : Int) := e44; subst e44; exact exec_val (c := .pointer (some ⟨g, j1 * 10, none⟩)) (wanted_none rfl) (by go_simp) rfl
                case o9 => intro aR wR mR hbd hR hI; replace hR := hR.undrew; intro v45 h45 e45; replace e45 : v45 = .pointer (some ⟨g, j1 * 10, none⟩) := e45; subst e45; have hm0 : mR ≤ 0 := hbd 0 15 rfl (by kernel_rfl); have hcc := ((sw_at HX1.out HY1.out hI).1 (by omega)).2; exact exec_val (c := y.v) (wanted_none rfl) (exec_ld rfl (b := g) (o := j1 * 10) (by go_simp) hcc Try.underlying82 rfl (by kernel_rfl)) rfl
                case o10 => intro aR wR mR hbd hR hI; replace hR := hR.undrew; intro (h0 : aR.tmps[0]? = some (.slice (some ⟨g, 0, none⟩) N cap)); exact exec_val (c := .slice (some ⟨g, 0, none⟩) N cap) (wanted_none rfl) (by go_simp) rfl
                case o11 => intro aR wR mR hbd hR hI; replace hR := hR.undrew; intro (h9 : aR.tmps[9]? = some (.int .i64 (q : Int))); exact exec_val (c := .int .i64 (q : Int)) (wanted_none rfl) (by go_simp) rfl
                case o12 => intro aR wR mR hbd hR hI; replace hR := hR.undrew; intro v47 h47 e47; replace e47 : v47 = .slice (some ⟨g, 0, none⟩) N cap := e47; subst e47; intro v48 h48 e48; replace e48 : v48 = .int .i64 (q : Int) := e48; subst e48; exact exec_val (c := .pointer (some ⟨g, q * 10, none⟩)) (wanted_none rfl) (by go_simp) rfl
                case o13 => intro aR wR mR hbd hR hI; replace hR := hR.undrew; intro v49 h49 e49; replace e49 : v49 = .pointer (some ⟨g, q * 10, none⟩) := e49; subst e49; have hm0 : mR ≤ 0 := hbd 0 15 rfl (by kernel_rfl); have hcc := ((sw_at HX1.out HY1.out hI).1 (by omega)).1; exact exec_val (c := x.v) (wanted_none rfl) (exec_ld rfl (b := g) (o := q * 10) (by go_simp) hcc Try.underlying82 rfl (by kernel_rfl)) rfl
                case o14 => intro aR wR mR hbd hR hI; replace hR := hR.undrew; intro v37 h37 e37; replace e37 : v37 = .slice (some ⟨g, 0, none⟩) N cap := e37; subst e37; intro v38 h38 e38; replace e38 : v38 = .int .i64 (q : Int) := e38; subst e38; exact exec_val (c := .pointer (some ⟨g, q * 10, none⟩)) (wanted_none rfl) (by go_simp) rfl
                case o15 => intro aR wR hR hI; replace hR := hR.undrew; intro v51 h51 e51; replace e51 : v51 = .pointer (some ⟨g, q * 10, none⟩) := e51; subst e51; intro v46 h46 e46; replace e46 : v46 = y.v := e46; subst e46; obtain ⟨-, t1, -⟩ := sw_at HX1.out HY1.out hI; obtain ⟨k1, d1⟩ := sw_one HX1.out hI; exact exec_skS (w' := wR.setCells g (q * 10) y.cells) (wanted_none rfl) (exec_st rfl (b := g) (o := q * 10) (cs := y.cells) (by go_simp) (by unfold Rc.v at *; go_simp) t1 (by kernel_rfl) (fun v hv => rclies.one y v hv)) trivial ⟨k1, d1⟩
                case o16 => intro aR wR mR hbd hR hI; replace hR := hR.undrew; intro v39 h39 e39; replace e39 : v39 = .slice (some ⟨g, 0, none⟩) N cap := e39; subst e39; intro v41 h41 e41; replace e41 : v41 = .int .i64 (j1 : Int) := e41; subst e41; exact exec_val (c := .pointer (some ⟨g, j1 * 10, none⟩)) (wanted_none rfl) (by go_simp) rfl
                case o17 => intro aR wR hR hI; replace hR := hR.undrew; intro v52 h52 e52; replace e52 : v52 = .pointer (some ⟨g, j1 * 10, none⟩) := e52; subst e52; intro v50 h50 e50; replace e50 : v50 = x.v := e50; subst e50; obtain ⟨-, -, t1⟩ := sw_at HX1.out HY1.out hI; obtain ⟨k1, d1⟩ := sw_two HY1.out hI; exact exec_skS (w' := wR.setCells g (j1 * 10) x.cells) (wanted_none rfl) (exec_st rfl (b := g) (o := j1 * 10) (cs := x.cells) (by go_simp) (by unfold Rc.v at *; go_simp) t1 (by kernel_rfl) (fun v hv => rclies.one x v hv)) trivial ⟨k1, d1⟩
              · intro vs wR hR hI hV
                obtain ⟨e0, e1, e2, e3, e4, e5, e6, e7, e8, e9, e10, e11, e12, e13, e14, e15, e16, e17, -⟩ := hV
                replace e0 : vs 0 = .slice (some ⟨g, 0, none⟩) N cap := e0
                replace e1 : vs 1 = .int .i64 (q : Int) := e1
                replace e2 : vs 2 = .slice (some ⟨g, 0, none⟩) N cap := e2
                replace e3 : vs 3 = .int .i64 (q : Int) := e3
                replace e4 : vs 4 = .int .i64 (j1 : Int) := e4
                replace e5 : vs 5 = .slice (some ⟨g, 0, none⟩) N cap := e5
                replace e6 : vs 6 = .int .i64 (q : Int) := e6
                replace e7 : vs 7 = .int .i64 (j1 : Int) := e7
                replace e8 : vs 8 = .pointer (some ⟨g, j1 * 10, none⟩) := e8
                replace e9 : vs 9 = y.v := e9
                replace e10 : vs 10 = .slice (some ⟨g, 0, none⟩) N cap := e10
                replace e11 : vs 11 = .int .i64 (q : Int) := e11
                replace e12 : vs 12 = .pointer (some ⟨g, q * 10, none⟩) := e12
                replace e13 : vs 13 = x.v := e13
                replace e14 : vs 14 = .pointer (some ⟨g, q * 10, none⟩) := e14
                replace e16 : vs 16 = .pointer (some ⟨g, j1 * 10, none⟩) := e16
                simp only [putAll, List.take_succ_cons, List.take_zero, List.drop_succ_cons, List.drop_zero, e0, e1, e2, e3, e4, e5, e6, e7, e8, e9, e10, e11, e12, e13, e14, e16, Nat.reduceAdd, Nat.zero_add]
                clear e0 e1 e2 e3 e4 e5 e6 e7 e8 e9 e10 e11 e12 e13 e14 e15 e16 e17
                try simp only [List.setIfInBounds_toArray, List.set_cons_succ, List.set_cons_zero]
                refine wpList_nil ?_
                have hD2 : Dat wR g (P ++ (L' ++ x :: ((y :: R) ++ (A2' ++ T)))) := by rw [← HSW.out]; exact hI
                go_wp2_with fail
                go_roundw
                case rel => exact ⟨j1, L', y :: R, rfl, Lib.hid (by rw [HLR.out]; simp), Lib.hid (fun z hz => by
                    rcases List.mem_cons.1 hz with rfl | hz
                    · exact HLX.out
                    · exact HGT.out z hz), Lib.hid (by have := HJ.out; simp at this; omega), by have := HQ.out; omega, by have := HQ.out; omega, Lib.hid hD2, Lib.hid (HKR2.out.trans hR (by simp) (by simp))⟩
                case measure => have := HQ.out; simp [intOf]; omega
            · have hlx : ltc c x y = false := by unfold ltc; rw [← HCV.out]; simpa using hcl
              have HLX := Lib.hid hlx
              have hdc : decide (cv < 0) = false := by simpa using hcl
              clear hlx
              go_wp2_with fail
              go_roundw
              case rel => exact HNX.out _ (L' ++ [y]) R HLR.out HGT.out (last_le HS.out (by have := HST.out.1; rw [HLR.out] at this; exact (List.pairwise_append.1 this).1) HLX.out) HDR2.out HKR2.out
              case measure => simp [intOf]; omega
    · have hA2 : A2 = [] := by
        cases hA1 : A1 with
        | nil => exact HNE.out hA1
        | cons z t =>
          have h1 := HE.out
          have h2 := HL.out
          have h3 := HKK.out
          rw [h1] at h2
          rw [hA1] at h2 h3
          simp at h2 h3
          exact List.eq_nil_of_length_eq_zero (by omega)
      subst hA2
      have hA1 : A = A1 := by have := HE.out; simpa using this
      go_wp2_with fail
      go_end0
      exact ⟨⟨_, rfl⟩, R1, hA1 ▸ HST.out, by have := HDR.out; simpa using this, HKR.out⟩
end Go.Proofs.Ythmaobmgogmaoaa
namespace Go.Proofs.Ythmaobmgogmaoaa
open Go.RowKit
set_option linter.unusedSimpArgs false
set_option linter.unusedVariables false

theorem sw_far (A M Z : List Rc) (x y : Rc) (i j : Nat) (hi : A.length = i) (hj : (A ++ x :: M).length = j) : swst 2 (A ++ x :: (M ++ y :: Z)) i j x y = A ++ y :: (M ++ x :: Z) := by
  subst hi
  have e1 : (A ++ x :: (M ++ y :: Z)).set A.length y = A ++ y :: (M ++ y :: Z) := by rw [List.set_append_right _ _ (by omega)]; simp
  have e2 : (A ++ y :: (M ++ y :: Z)).set j x = A ++ y :: (M ++ x :: Z) := by
    rw [show A ++ y :: (M ++ y :: Z) = (A ++ y :: M) ++ y :: Z by simp, List.set_append_right _ _ (by simp at hj ⊢; omega), show j - (A ++ y :: M).length = 0 by simp at hj ⊢; omega]
    simp
  show ((A ++ x :: (M ++ y :: Z)).set A.length y).set j x = _
  rw [e1, e2]
theorem get_at (A Z : List Rc) (x : Rc) (i : Nat) (hi : A.length = i) : (A ++ x :: Z)[i]? = some x := by subst hi; simp

set_option maxHeartbeats 1600000 in
set_option maxRecDepth 100000 in
theorem swapR_any (g N cap a b n : Nat) (fv : Value) (P X Q Y S : List Rc) (ha : P.length = a) (hb : a + X.length + Q.length = b) (hX : X.length = n) (hY : Y.length = n) (hN : (P ++ (X ++ (Q ++ (Y ++ S)))).length = N) (hNb : N ≤ 1000000)
    (w : World) (hd : Dat w g (P ++ (X ++ (Q ++ (Y ++ S))))) (hcap : N ≤ cap) :
    Calls Try.prog 70 #[.slice (some ⟨g, 0, none⟩) N cap, .int .i64 (a : Int), .int .i64 (b : Int), .int .i64 (n : Int), fv] w fun e w' => (∃ v, e = .returned v) ∧ Dat w' g (P ++ (Y ++ (Q ++ (X ++ S)))) ∧ Kp [g] w w' := by
  have HD := Lib.hid hd
  have HA := Lib.hid ha
  have HB := Lib.hid hb
  have HX := Lib.hid hX
  have HY := Lib.hid hY
  have h1 : a + n ≤ b := by omega
  have h2 : b + n ≤ N := by rw [← hN]; simp; omega
  clear hd ha hb hX hY hN
  go_enter Try.func70, Try.ntmps70
  go_wp2_with fail
  go_loopw [10] (fun vi wr => ∃ (k : Nat) (X1 X2 Y1 Y2 : List Rc), vi = .int .i64 k ∧ k ≤ n ∧ Hid (X = X1 ++ X2) ∧ Hid (Y = Y1 ++ Y2) ∧ Hid (X1.length = k) ∧ Hid (Y1.length = k) ∧ Hid (Dat wr g (P ++ ((Y1 ++ X2) ++ (Q ++ ((X1 ++ Y2) ++ S))))) ∧ Hid (Kp [g] w wr)) (fun vi _ => n - (intOf vi).toNat)
  case atStart => exact ⟨0, [], X, [], Y, rfl, Nat.zero_le _, Lib.hid rfl, Lib.hid rfl, Lib.hid rfl, Lib.hid rfl, HD, Lib.hid (Kp.refl _ _)⟩
  case round =>
    obtain ⟨k, X1, X2, Y1, Y2, rfl, hk, HXE, HYE, HX1, HY1, HDR, HKR⟩ := hrel
    by_cases hlt : k < n
    · obtain ⟨x, X2', hX2⟩ : ∃ x X2', X2 = x :: X2' := by
        cases X2 with
        | cons x t => exact ⟨x, t, rfl⟩
        | nil => exfalso; have h3 := HXE.out; have h4 := HX1.out; have h5 := HX.out; rw [h3] at h5; simp at h5; omega
      obtain ⟨y, Y2', hY2⟩ : ∃ y Y2', Y2 = y :: Y2' := by
        cases Y2 with
        | cons x t => exact ⟨x, t, rfl⟩
        | nil => exfalso; have h3 := HYE.out; have h4 := HY1.out; have h5 := HY.out; rw [h3] at h5; simp at h5; omega
      subst hX2
      subst hY2
      obtain ⟨u, hu⟩ : ∃ u, u = a + k := ⟨_, rfl⟩
      obtain ⟨v, hv⟩ : ∃ v, v = b + k := ⟨_, rfl⟩
      have hui : (a : Int) + (k : Int) = (u : Int) := by omega
      have hvi : (b : Int) + (k : Int) = (v : Int) := by omega
      have huN : u < N := by omega
      have hwu : IntKind.i64.wrap (u : Int) = (u : Int) := IntWalk.i64_in _ (by omega)
      have hvN : v < N := by omega
      have hwv : IntKind.i64.wrap (v : Int) = (v : Int) := IntWalk.i64_in _ (by omega)
      have hlen1 : (P ++ Y1).length = u := by have := HA.out; have := HY1.out; simp; omega
      have hlen2 : ((P ++ Y1) ++ x :: (X2' ++ (Q ++ X1))).length = v := by
        have h3 := HB.out; have h4 := HX.out; have h5 := HXE.out; have h6 := HA.out; have h7 := HY1.out; have h8 := HX1.out
        rw [h5] at h3; simp at h3 ⊢; omega
      obtain ⟨xs, hxs⟩ : ∃ xs, xs = (P ++ Y1) ++ x :: ((X2' ++ (Q ++ X1)) ++ y :: (Y2' ++ S)) := ⟨_, rfl⟩
      have hD1 : Dat wr g xs := by rw [hxs]; have := HDR.out; simpa using this
      have HD1 := Lib.hid hD1
      have HXX : Hid (xs[u]? = some x) := Lib.hid (by rw [hxs]; exact get_at _ _ _ _ hlen1)
      have HYY : Hid (xs[v]? = some y) := Lib.hid (by
        rw [hxs, show (P ++ Y1) ++ x :: ((X2' ++ (Q ++ X1)) ++ y :: (Y2' ++ S)) = ((P ++ Y1) ++ x :: (X2' ++ (Q ++ X1))) ++ y :: (Y2' ++ S) by simp]
        exact get_at _ _ _ _ hlen2)
      have HSW : Hid (swst 2 xs u v x y = P ++ (((Y1 ++ [y]) ++ X2') ++ (Q ++ ((X1 ++ [x]) ++ Y2' ++ S)))) := Lib.hid (by
        rw [hxs, sw_far _ _ _ _ _ _ _ hlen1 hlen2]; simp)
      clear hxs hD1 hlen1 hlen2 hu hv
      obtain ⟨wo, rfl⟩ : ∃ wo : World, wo = wr := ⟨_, rfl⟩
      go_upto_region 3 with (fail)
      refine wp_region_HS (by kernel_rfl) [g] [.val (.slice (some ⟨g, 0, none⟩) N cap), .val (.int .i64 (a : Int)), .val (.int .i64 (k : Int)), .val (.int .i64 (u : Int)), .val (.slice (some ⟨g, 0, none⟩) N cap), .val (.int .i64 (b : Int)), .val (.int .i64 (k : Int)), .val (.int .i64 (v : Int)), .val (.slice (some ⟨g, 0, none⟩) N cap), .val (.int .i64 (b : Int)), .val (.int .i64 (k : Int)), .val (.int .i64 (v : Int)), .val (.pointer (some ⟨g, v * 10, none⟩)), .val (y.v), .val (.slice (some ⟨g, 0, none⟩) N cap), .val (.int .i64 (a : Int)), .val (.int .i64 (k : Int)), .val (.int .i64 (u : Int)), .val (.pointer (some ⟨g, u * 10, none⟩)), .val (x.v), .val (.pointer (some ⟨g, u * 10, none⟩)), .any, .val (.pointer (some ⟨g, v * 10, none⟩)), .any] [[(0, none)], [(1, none)], [(10, none)], [(17, some 1), (18, some 2)], [(0, none)], [(2, none)], [(10, none)], [(21, some 5), (22, some 6)], [(0, none)], [(2, none)], [(10, none)], [(25, some 9), (26, some 10)], [(24, some 8), (27, some 11)], [(28, some 12)], [(0, none)], [(1, none)], [(10, none)], [(31, some 15), (32, some 16)], [(30, some 14), (33, some 17)], [(34, some 18)], [(16, some 0), (19, some 3)], [(36, some 20), (29, some 13)], [(20, some 4), (23, some 7)], [(37, some 22), (35, some 19)]] [21, 23] (fun m wx => Dat wx g (swst m xs u v x y)) 24 rfl (by kernel_rfl) (by kernel_rfl) (by kernel_rfl) (by kernel_rfl) (by kernel_rfl) (by simp) (fun _ _ _ h k => h.keep0 k) (HD1.out) ?_ ?_
      · refine (ObH.free rfl ?o0 (ObH.free rfl ?o1 (ObH.free rfl ?o2 (ObH.free rfl ?o3 (ObH.free rfl ?o4 (ObH.free rfl ?o5 (ObH.free rfl ?o6 (ObH.free rfl ?o7 (ObH.free rfl ?o8 (ObH.free rfl ?o9 (ObH.free rfl ?o10 (ObH.free rfl ?o11 (ObH.free rfl ?o12 (ObH.free rfl ?o13 (ObH.free rfl ?o14 (ObH.free rfl ?o15 (ObH.free rfl ?o16 (ObH.free rfl ?o17 (ObH.free rfl ?o18 (ObH.free rfl ?o19 (ObH.free rfl ?o20 (ObH.chain 0 rfl ?o21 (ObH.free rfl ?o22 (ObH.chain 1 rfl ?o23 trivial))))))))))))))))))))))))
        case o0 => intro aR wR mR hbd hR hI; replace hR := hR.undrew; intro (h0 : aR.tmps[0]? = some (.slice (some ⟨g, 0, none⟩) N cap)); exact exec_val (c := .slice (some ⟨g, 0, none⟩) N cap) (wanted_none rfl) (by go_simp) rfl
        case o1 => intro aR wR mR hbd hR hI; replace hR := hR.undrew; intro (h1 : aR.tmps[1]? = some (.int .i64 (a : Int))); exact exec_val (c := .int .i64 (a : Int)) (wanted_none rfl) (by go_simp) rfl
        case o2 => intro aR wR mR hbd hR hI; replace hR := hR.undrew; intro (h10 : aR.tmps[10]? = some (.int .i64 (k : Int))); exact exec_val (c := .int .i64 (k : Int)) (wanted_none rfl) (by go_simp) rfl
        case o3 => intro aR wR mR hbd hR hI; replace hR := hR.undrew; intro v17 h17 e17; replace e17 : v17 = .int .i64 (a : Int) := e17; subst e17; intro v18 h18 e18; replace e18 : v18 = .int .i64 (k : Int) := e18; subst e18; exact exec_val (c := .int .i64 (u : Int)) (wanted_none rfl) (by go_simp) rfl
        case o4 => intro aR wR mR hbd hR hI; replace hR := hR.undrew; intro (h0 : aR.tmps[0]? = some (.slice (some ⟨g, 0, none⟩) N cap)); exact exec_val (c := .slice (some ⟨g, 0, none⟩) N cap) (wanted_none rfl) (by go_simp) rfl
        case o5 => intro aR wR mR hbd hR hI; replace hR := hR.undrew; intro (h2 : aR.tmps[2]? = some (.int .i64 (b : Int))); exact exec_val (c := .int .i64 (b : Int)) (wanted_none rfl) (by go_simp) rfl
        case o6 => intro aR wR mR hbd hR hI; replace hR := hR.undrew; intro (h10 : aR.tmps[10]? = some (.int .i64 (k : Int))); exact exec_val (c := .int .i64 (k : Int)) (wanted_none rfl) (by go_simp) rfl
        case o7 => intro aR wR mR hbd hR hI; replace hR := hR.undrew; intro v21 h21 e21; replace e21 : v21 = .int .i64 (b : Int) := e21; subst e21; intro v22 h22 e22; replace e22 : v22 = .int .i64 (k : Int) := e22; subst e22; exact exec_val (c := .int .i64 (v : Int)) (wanted_none rfl) (by go_simp) rfl
        case o8 => intro aR wR mR hbd hR hI; replace hR := hR.undrew; intro (h0 : aR.tmps[0]? = some (.slice (some ⟨g, 0, none⟩) N cap)); exact exec_val (c := .slice (some ⟨g, 0, none⟩) N cap) (wanted_none rfl) (by go_simp) rfl
        case o9 => intro aR wR mR hbd hR hI; replace hR := hR.undrew; intro (h2 : aR.tmps[2]? = some (.int .i64 (b : Int))); exact exec_val (c := .int .i64 (b : Int)) (wanted_none rfl) (by go_simp) rfl
        case o10 => intro aR wR mR hbd hR hI; replace hR := hR.undrew; intro (h10 : aR.tmps[10]? = some (.int .i64 (k : Int))); exact exec_val (c := .int .i64 (k : Int)) (wanted_none rfl) (by go_simp) rfl
        case o11 => intro aR wR mR hbd hR hI; replace hR := hR.undrew; intro v25 h25 e25; replace e25 : v25 = .int .i64 (b : Int) := e25; subst e25; intro v26 h26 e26; replace e26 : v26 = .int .i64 (k : Int) := e26; subst e26; exact exec_val (c := .int .i64 (v : Int)) (wanted_none rfl) (by go_simp) rfl
        case o12 => intro aR wR mR hbd hR hI; replace hR := hR.undrew; intro v24 h24 e24; replace e24 : v24 = .slice (some ⟨g, 0, none⟩) N cap := e24; subst e24; intro v27 h27 e27; replace e27 : v27 = .int .i64 (v : Int) := e27; subst e27; exact exec_val (c := .pointer (some ⟨g, v * 10, none⟩)) (wanted_none rfl) (by go_simp) rfl
        case o13 => intro aR wR mR hbd hR hI; replace hR := hR.undrew; intro v28 h28 e28; replace e28 : v28 = .pointer (some ⟨g, v * 10, none⟩) := e28; subst e28; have hm0 : mR ≤ 0 := hbd 0 21 rfl (by kernel_rfl); have hcc := ((sw_at HXX.out HYY.out hI).1 (by omega)).2; exact exec_val (c := y.v) (wanted_none rfl) (exec_ld rfl (b := g) (o := v * 10) (by go_simp) hcc Try.underlying82 rfl (by kernel_rfl)) rfl
        case o14 => intro aR wR mR hbd hR hI; replace hR := hR.undrew; intro (h0 : aR.tmps[0]? = some (.slice (some ⟨g, 0, none⟩) N cap)); exact exec_val (c := .slice (some ⟨g, 0, none⟩) N cap) (wanted_none rfl) (by go_simp) rfl
        case o15 => intro aR wR mR hbd hR hI; replace hR := hR.undrew; intro (h1 : aR.tmps[1]? = some (.int .i64 (a : Int))); exact exec_val (c := .int .i64 (a : Int)) (wanted_none rfl) (by go_simp) rfl
        case o16 => intro aR wR mR hbd hR hI; replace hR := hR.undrew; intro (h10 : aR.tmps[10]? = some (.int .i64 (k : Int))); exact exec_val (c := .int .i64 (k : Int)) (wanted_none rfl) (by go_simp) rfl
        case o17 => intro aR wR mR hbd hR hI; replace hR := hR.undrew; intro v31 h31 e31; replace e31 : v31 = .int .i64 (a : Int) := e31; subst e31; intro v32 h32 e32; replace e32 : v32 = .int .i64 (k : Int) := e32; subst e32; exact exec_val (c := .int .i64 (u : Int)) (wanted_none rfl) (by go_simp) rfl
        case o18 => intro aR wR mR hbd hR hI; replace hR := hR.undrew; intro v30 h30 e30; replace e30 : v30 = .slice (some ⟨g, 0, none⟩) N cap := e30; subst e30; intro v33 h33 e33; replace e33 : v33 = .int .i64 (u : Int) := e33; subst e33; exact exec_val (c := .pointer (some ⟨g, u * 10, none⟩)) (wanted_none rfl) (by go_simp) rfl
        case o19 => intro aR wR mR hbd hR hI; replace hR := hR.undrew; intro v34 h34 e34; replace e34 : v34 = .pointer (some ⟨g, u * 10, none⟩) := e34; subst e34; have hm0 : mR ≤ 0 := hbd 0 21 rfl (by kernel_rfl); have hcc := ((sw_at HXX.out HYY.out hI).1 (by omega)).1; exact exec_val (c := x.v) (wanted_none rfl) (exec_ld rfl (b := g) (o := u * 10) (by go_simp) hcc Try.underlying82 rfl (by kernel_rfl)) rfl
        case o20 => intro aR wR mR hbd hR hI; replace hR := hR.undrew; intro v16 h16 e16; replace e16 : v16 = .slice (some ⟨g, 0, none⟩) N cap := e16; subst e16; intro v19 h19 e19; replace e19 : v19 = .int .i64 (u : Int) := e19; subst e19; exact exec_val (c := .pointer (some ⟨g, u * 10, none⟩)) (wanted_none rfl) (by go_simp) rfl
        case o21 => intro aR wR hR hI; replace hR := hR.undrew; intro v36 h36 e36; replace e36 : v36 = .pointer (some ⟨g, u * 10, none⟩) := e36; subst e36; intro v29 h29 e29; replace e29 : v29 = y.v := e29; subst e29; obtain ⟨-, t1, -⟩ := sw_at HXX.out HYY.out hI; obtain ⟨k1, d1⟩ := sw_one HXX.out hI; exact exec_skS (w' := wR.setCells g (u * 10) y.cells) (wanted_none rfl) (exec_st rfl (b := g) (o := u * 10) (cs := y.cells) (by go_simp) (by unfold Rc.v at *; go_simp) t1 (by kernel_rfl) (fun v hv => rclies.one y v hv)) trivial ⟨k1, d1⟩
        case o22 => intro aR wR mR hbd hR hI; replace hR := hR.undrew; intro v20 h20 e20; replace e20 : v20 = .slice (some ⟨g, 0, none⟩) N cap := e20; subst e20; intro v23 h23 e23; replace e23 : v23 = .int .i64 (v : Int) := e23; subst e23; exact exec_val (c := .pointer (some ⟨g, v * 10, none⟩)) (wanted_none rfl) (by go_simp) rfl
        case o23 => intro aR wR hR hI; replace hR := hR.undrew; intro v37 h37 e37; replace e37 : v37 = .pointer (some ⟨g, v * 10, none⟩) := e37; subst e37; intro v35 h35 e35; replace e35 : v35 = x.v := e35; subst e35; obtain ⟨-, -, t1⟩ := sw_at HXX.out HYY.out hI; obtain ⟨k1, d1⟩ := sw_two HYY.out hI; exact exec_skS (w' := wR.setCells g (v * 10) x.cells) (wanted_none rfl) (exec_st rfl (b := g) (o := v * 10) (cs := x.cells) (by go_simp) (by unfold Rc.v at *; go_simp) t1 (by kernel_rfl) (fun v hv => rclies.one x v hv)) trivial ⟨k1, d1⟩
      · intro vs wR hR hI hV
        obtain ⟨e0, e1, e2, e3, e4, e5, e6, e7, e8, e9, e10, e11, e12, e13, e14, e15, e16, e17, e18, e19, e20, e21, e22, e23, -⟩ := hV
        replace e0 : vs 0 = .slice (some ⟨g, 0, none⟩) N cap := e0
        replace e1 : vs 1 = .int .i64 (a : Int) := e1
        replace e2 : vs 2 = .int .i64 (k : Int) := e2
        replace e3 : vs 3 = .int .i64 (u : Int) := e3
        replace e4 : vs 4 = .slice (some ⟨g, 0, none⟩) N cap := e4
        replace e5 : vs 5 = .int .i64 (b : Int) := e5
        replace e6 : vs 6 = .int .i64 (k : Int) := e6
        replace e7 : vs 7 = .int .i64 (v : Int) := e7
        replace e8 : vs 8 = .slice (some ⟨g, 0, none⟩) N cap := e8
        replace e9 : vs 9 = .int .i64 (b : Int) := e9
        replace e10 : vs 10 = .int .i64 (k : Int) := e10
        replace e11 : vs 11 = .int .i64 (v : Int) := e11
        replace e12 : vs 12 = .pointer (some ⟨g, v * 10, none⟩) := e12
        replace e13 : vs 13 = y.v := e13
        replace e14 : vs 14 = .slice (some ⟨g, 0, none⟩) N cap := e14
        replace e15 : vs 15 = .int .i64 (a : Int) := e15
        replace e16 : vs 16 = .int .i64 (k : Int) := e16
        replace e17 : vs 17 = .int .i64 (u : Int) := e17
        replace e18 : vs 18 = .pointer (some ⟨g, u * 10, none⟩) := e18
        replace e19 : vs 19 = x.v := e19
        replace e20 : vs 20 = .pointer (some ⟨g, u * 10, none⟩) := e20
        replace e22 : vs 22 = .pointer (some ⟨g, v * 10, none⟩) := e22
        simp only [putAll, List.take_succ_cons, List.take_zero, List.drop_succ_cons, List.drop_zero, e0, e1, e2, e3, e4, e5, e6, e7, e8, e9, e10, e11, e12, e13, e14, e15, e16, e17, e18, e19, e20, e22, Nat.reduceAdd, Nat.zero_add]
        clear e0 e1 e2 e3 e4 e5 e6 e7 e8 e9 e10 e11 e12 e13 e14 e15 e16 e17 e18 e19 e20 e21 e22 e23
        try simp only [List.setIfInBounds_toArray, List.set_cons_succ, List.set_cons_zero]
        refine wpList_nil ?_
        have hD2 : Dat wR g (swst 2 xs u v x y) := hI
        rw [HSW.out] at hD2
        have HD2 := Lib.hid hD2
        clear hD2
        go_wp2_with fail
        go_roundw
        case rel => exact ⟨k + 1, X1 ++ [x], X2', Y1 ++ [y], Y2', by simp, by omega, Lib.hid (by rw [HXE.out]; simp), Lib.hid (by rw [HYE.out]; simp), Lib.hid (by have := HX1.out; simp; omega), Lib.hid (by have := HY1.out; simp; omega), Lib.hid (by simpa using HD2.out), Lib.hid (HKR.out.trans hR (by simp) (by simp))⟩
        case measure => simp [intOf]; omega
    · obtain rfl : k = n := by omega
      have hX2 : X2 = [] := by
        have h3 := HXE.out; have h4 := HX1.out; have h5 := HX.out; rw [h3] at h5; simp at h5; exact List.eq_nil_of_length_eq_zero (by omega)
      have hY2 : Y2 = [] := by
        have h3 := HYE.out; have h4 := HY1.out; have h5 := HY.out; rw [h3] at h5; simp at h5; exact List.eq_nil_of_length_eq_zero (by omega)
      subst hX2; subst hY2
      have hD2 : Dat wr g (P ++ (Y ++ (Q ++ (X ++ S)))) := by rw [HXE.out, HYE.out]; simpa using HDR.out
      have HD2 := Lib.hid hD2
      clear hD2
      go_wp2_with fail
      go_end0
      exact ⟨⟨_, rfl⟩, HD2.out, HKR.out⟩

set_option maxHeartbeats 1600000 in
set_option maxRecDepth 100000 in
theorem rotate_any (g N cap a m b : Nat) (fv : Value) (P X Y S : List Rc) (ha : P.length = a) (hm : a + X.length = m) (hb : m + Y.length = b) (hX : 0 < X.length) (hY : 0 < Y.length) (hN : (P ++ (X ++ (Y ++ S))).length = N) (hNb : N ≤ 1000000)
    (w : World) (hd : Dat w g (P ++ (X ++ (Y ++ S)))) (hcap : N ≤ cap) :
    Calls Try.prog 69 #[.slice (some ⟨g, 0, none⟩) N cap, .int .i64 (a : Int), .int .i64 (m : Int), .int .i64 (b : Int), fv] w fun e w' => (∃ v, e = .returned v) ∧ Dat w' g (P ++ (Y ++ (X ++ S))) ∧ Kp [g] w w' := by
  obtain ⟨p, hp⟩ : ∃ p, p = X.length := ⟨_, rfl⟩
  obtain ⟨q, hq⟩ : ∃ q, q = Y.length := ⟨_, rfl⟩
  have h1 : (m : Int) - (a : Int) = (p : Int) := by omega
  have h2 : (b : Int) - (m : Int) = (q : Int) := by omega
  have hbN : b ≤ N := by rw [← hN]; simp; omega
  have hab : a + p = m := by omega
  have hmb : m + q = b := by omega
  rw [← hp] at hX
  rw [← hq] at hY
  have HD := Lib.hid hd
  have HP := Lib.hid hp
  have HQ := Lib.hid hq
  have HA := Lib.hid ha
  have HN := Lib.hid hN
  clear hd hp hq ha hm hb hN
  go_enter Try.func69, Try.ntmps69
  go_wp2_with fail
  clear h1 h2
  go_loopw [10, 11] (fun vi vj wr => ∃ (i j : Nat) (P' L R S' : List Rc), vi = .int .i64 i ∧ vj = .int .i64 j ∧ 0 < i ∧ 0 < j ∧ i ≤ m ∧ m + j ≤ N ∧ Hid (L.length = i) ∧ Hid (R.length = j) ∧ Hid (P'.length + i = m) ∧ Hid (P' ++ (R ++ (L ++ S')) = P ++ (Y ++ (X ++ S))) ∧ Hid (Dat wr g (P' ++ (L ++ (R ++ S')))) ∧ Hid (Kp [g] w wr)) (fun vi vj _ => (intOf vi).toNat + (intOf vj).toNat)
  case atStart => exact ⟨p, q, P, X, Y, S, rfl, rfl, hX, hY, by omega, by omega, Lib.hid HP.out.symm, Lib.hid HQ.out.symm, Lib.hid (by have := HA.out; omega), Lib.hid rfl, HD, Lib.hid (Kp.refl _ _)⟩
  case round =>
    obtain ⟨i, j, P', L, R, S', rfl, rfl, hi, hj, him, hjN, HL, HR, HPL, HE, HDR, HKR⟩ := hrel
    have HLN : Hid ((P' ++ (L ++ (R ++ S'))).length = N) := Lib.hid (by
      have h3 := congrArg List.length HE.out; have h4 := HN.out
      simp at h3 h4 ⊢; omega)
    obtain ⟨mi, hmi⟩ : ∃ x, x = m - i := ⟨_, rfl⟩
    have e1 : (m : Int) - (i : Int) = (mi : Int) := by omega
    have HMI : Hid (P'.length = mi) := Lib.hid (by have := HPL.out; omega)
    have HMI2 := Lib.hid hmi
    clear hmi
    by_cases hne : i = j
    · subst hne
      have hq1 : ((i : Int) != (i : Int)) = false := by simp
      go_wp2_with fail
      refine (swapR_any g N cap mi m i fv P' L [] R S' HMI.out (by have := HMI.out; have := HPL.out; have := HL.out; simp; omega) HL.out HR.out (by simpa using HLN.out) hNb wr (by simpa using HDR.out) hcap).mono ?_
      rintro e w5 ⟨⟨v, rfl⟩, hD5, kp5⟩
      have HD5 := Lib.hid hD5
      clear hD5
      go_wp2_with fail
      go_end0
      exact ⟨⟨_, rfl⟩, by rw [← HE.out]; simpa using HD5.out, HKR.out.trans kp5 (by simp) (by simp)⟩
    · have hq1 : ((i : Int) != (j : Int)) = true := by simp; omega
      by_cases hgt : j < i
      · -- the left is longer
        obtain ⟨ij, hij⟩ : ∃ x, x = i - j := ⟨_, rfl⟩
        have e2 : (i : Int) - (j : Int) = (ij : Int) := by omega
        obtain ⟨L1, L2, rfl, hl1, hl2⟩ : ∃ L1 L2, L = L1 ++ L2 ∧ L1.length = j ∧ L2.length = ij := ⟨L.take j, L.drop j, (List.take_append_drop j L).symm, by have := HL.out; simp; omega, by have := HL.out; simp; omega⟩
        have HL1 := Lib.hid hl1
        have HL2 := Lib.hid hl2
        have HIJ := Lib.hid hij
        clear hl1 hl2 hij
        go_wp2_with fail
        refine (swapR_any g N cap mi m j fv P' L1 L2 R S' HMI.out (by have := HMI2.out; have := HL1.out; have := HL2.out; have := HIJ.out; omega) HL1.out HR.out (by simpa using HLN.out) hNb wr (by simpa using HDR.out) hcap).mono ?_
        rintro e w5 ⟨⟨v, rfl⟩, hD5, kp5⟩
        have HD5 := Lib.hid hD5
        clear hD5
        go_wp2_with fail
        go_roundw
        case rel => exact ⟨ij, j, P' ++ R, L2, L1, S', rfl, rfl, by have := HIJ.out; omega, hj, by have := HIJ.out; omega, hjN, HL2, HL1, Lib.hid (by have := HPL.out; have := HR.out; have := HIJ.out; simp; omega), Lib.hid (by rw [← HE.out]; simp), Lib.hid (by simpa using HD5.out), Lib.hid (HKR.out.trans kp5 (by simp) (by simp))⟩
        case measure => have := HIJ.out; simp [intOf]; omega
      · -- the right is longer
        obtain ⟨ji, hji⟩ : ∃ x, x = j - i := ⟨_, rfl⟩
        have e2 : (j : Int) - (i : Int) = (ji : Int) := by omega
        obtain ⟨mj, hmj⟩ : ∃ x, x = m + ji := ⟨_, rfl⟩
        have e3 : (m : Int) + (j : Int) - (i : Int) = (mj : Int) := by omega
        obtain ⟨R1, R2, rfl, hl1, hl2⟩ : ∃ R1 R2, R = R1 ++ R2 ∧ R1.length = ji ∧ R2.length = i := ⟨R.take ji, R.drop ji, (List.take_append_drop ji R).symm, by have := HR.out; simp; omega, by have := HR.out; simp; omega⟩
        have HL1 := Lib.hid hl1
        have HL2 := Lib.hid hl2
        have HJI := Lib.hid hji
        have HMJ := Lib.hid hmj
        clear hl1 hl2 hji hmj
        go_wp2_with fail
        refine (swapR_any g N cap mi mj i fv P' L R1 R2 S' HMI.out (by have := HMI2.out; have := HL.out; have := HL1.out; have := HMJ.out; omega) HL.out HL2.out (by simpa using HLN.out) hNb wr (by simpa using HDR.out) hcap).mono ?_
        rintro e w5 ⟨⟨v, rfl⟩, hD5, kp5⟩
        have HD5 := Lib.hid hD5
        clear hD5
        go_wp2_with fail
        go_roundw
        case rel => exact ⟨i, ji, P', R2, R1, L ++ S', rfl, rfl, hi, by have := HJI.out; omega, him, by have := HJI.out; omega, HL2, HL1, HPL, Lib.hid (by rw [← HE.out]; simp), Lib.hid (by simpa using HD5.out), Lib.hid (HKR.out.trans kp5 (by simp) (by simp))⟩
        case measure => have := HJI.out; simp [intOf]; omega
end Go.Proofs.Ythmaobmgogmaoaa
namespace Go.Proofs.Ythmaobmgogmaoaa
open Go.RowKit
set_option linter.unusedSimpArgs false
set_option linter.unusedVariables false

theorem split_at {α : Type} (l : List α) (k : Nat) (h : k < l.length) : ∃ l1 y l2, l = l1 ++ y :: l2 ∧ l1.length = k ∧ l[k]? = some y :=
  ⟨l.take k, l[k], l.drop (k + 1), by rw [← List.drop_eq_getElem_cons h, List.take_append_drop], by simp; omega, by simp [h]⟩
section
variable {α : Type} {lt : α → α → Bool}
theorem upto_all (hs : Swo lt) {B : List α} {x : α} {d : Nat} (hd : d ≤ B.length) (hB : Rises lt B) (h : 0 < d → ∀ y, B[d - 1]? = some y → lt y x = true) : ∀ z ∈ B.take d, lt z x = true := by
  cases d with
  | zero => simp
  | succ d =>
    have hlt : d < B.length := by omega
    have e : B.take (d + 1) = B.take d ++ [B[d]] := List.take_succ_eq_append_getElem hlt
    have hr : Rises lt (B.take (d + 1)) := hB.sublist (List.take_sublist _ _)
    rw [e] at hr ⊢
    exact last_all hs hr (h (by omega) _ (by simp [hlt]))
theorem upto_le (hs : Swo lt) {A : List α} {y : α} {d : Nat} (hd : d ≤ A.length) (hA : Rises lt A) (h : 0 < d → ∀ x, A[d - 1]? = some x → lt y x = false) : ∀ z ∈ A.take d, lt y z = false := by
  cases d with
  | zero => simp
  | succ d =>
    have hlt : d < A.length := by omega
    have e : A.take (d + 1) = A.take d ++ [A[d]] := List.take_succ_eq_append_getElem hlt
    have hr : Rises lt (A.take (d + 1)) := hA.sublist (List.take_sublist _ _)
    rw [e] at hr ⊢
    exact last_le hs hr (h (by omega) _ (by simp [hlt]))
theorem from_le (hs : Swo lt) {B : List α} {x : α} {d : Nat} (hB : Rises lt B) (h : ∀ y, B[d]? = some y → lt y x = false) : ∀ z ∈ B.drop d, lt z x = false := by
  by_cases hlt : d < B.length
  · have e : B.drop d = B[d] :: B.drop (d + 1) := List.drop_eq_getElem_cons hlt
    have hr : Rises lt (B.drop d) := hB.sublist (List.drop_sublist _ _)
    rw [e] at hr ⊢
    exact first_le hs hr (h _ (by simp [hlt]))
  · rw [List.drop_of_length_le (by omega)]; simp
theorem from_all (hs : Swo lt) {A : List α} {y : α} {d : Nat} (hA : Rises lt A) (h : ∀ x, A[d]? = some x → lt y x = true) : ∀ z ∈ A.drop d, lt y z = true := by
  by_cases hlt : d < A.length
  · have e : A.drop d = A[d] :: A.drop (d + 1) := List.drop_eq_getElem_cons hlt
    have hr : Rises lt (A.drop d) := hA.sublist (List.drop_sublist _ _)
    rw [e] at hr ⊢
    exact first_all hs hr (h _ (by simp [hlt]))
  · rw [List.drop_of_length_le (by omega)]; simp
theorem left_law (hs : Swo lt) {B : List α} {x : α} {d : Nat} (hd : d ≤ B.length) (hB : Rises lt B) (h1 : 0 < d → ∀ y, B[d - 1]? = some y → lt y x = true) (h2 : ∀ y, B[d]? = some y → lt y x = false) :
    Stab lt ([x] ++ B) (B.take d ++ x :: B.drop d) := by
  have e := (List.take_append_drop d B).symm
  have hf := from_le hs hB h2
  have hr2 : Rises lt (B.drop d) := hB.sublist (List.drop_sublist _ _)
  have := stab_cut hs (A1 := []) (A2 := [x]) (B1 := B.take d) (B2 := B.drop d) (R1 := B.take d) (R2 := x :: B.drop d) (List.pairwise_singleton _ _) (by rw [← e]; exact hB) (by simp) (by simpa using upto_all hs hd hB h1)
    (Stab.refl (hB.sublist (List.take_sublist _ _))) (Stab.refl (List.pairwise_cons.2 ⟨hf, hr2⟩))
  rw [← e] at this
  simpa using this
theorem right_law (hs : Swo lt) {A : List α} {y : α} {d : Nat} (hd : d ≤ A.length) (hA : Rises lt A) (h1 : 0 < d → ∀ x, A[d - 1]? = some x → lt y x = false) (h2 : ∀ x, A[d]? = some x → lt y x = true) :
    Stab lt (A ++ [y]) (A.take d ++ y :: A.drop d) := by
  have e := (List.take_append_drop d A).symm
  refine stab_put hs ?_ (from_all hs hA h2) (upto_le hs hd hA h1)
  rw [← e]; exact Stab.refl hA
end

/-- What a merge comes to. -/
def SymPost (g : Nat) (c : Rc → Rc → Int) (P A B S : List Rc) (w : World) (e : Ending) (w' : World) : Prop :=
  (∃ v, e = .returned v) ∧ ∃ R, Stab (ltc c) (A ++ B) R ∧ Dat w' g (P ++ (R ++ S)) ∧ Kp [g] w w'

set_option maxHeartbeats 1600000 in
set_option maxRecDepth 100000 in
theorem symm_left (g N cap a m b fc : Nat) (lb : Array Value) (c : Rc → Rc → Int) (U : Rc → Prop) (w0 : World) (hc : CmpOk g w0 U fc lb c) (hs : Swo (ltc c)) (P B S : List Rc) (x : Rc) (ha : P.length = a) (hm : a + 1 = m) (hb : m + B.length = b) (hN : (P ++ ([x] ++ (B ++ S))).length = N) (hNb : N ≤ 1000000)
    (hBr : Rises (ltc c) B) (hU : U x ∧ ∀ y ∈ B, U y) (w : World) (hd : Dat w g (P ++ ([x] ++ (B ++ S)))) (hk : Kp [g] w0 w) (hcap : N ≤ cap) :
    Calls Try.prog 67 #[.slice (some ⟨g, 0, none⟩) N cap, .int .i64 (a : Int), .int .i64 (m : Int), .int .i64 (b : Int), .func (.func fc) #[] lb] w (SymPost g c P [x] B S w) := by
  have HC := Lib.hid hc
  have HS := Lib.hid hs
  have HA := Lib.hid ha
  have HM := Lib.hid hm
  have HB := Lib.hid hb
  have HBR := Lib.hid hBr
  have HU := Lib.hid hU
  have HD := Lib.hid hd
  have HK := Lib.hid hk
  have hbN : b ≤ N := by rw [← hN]; simp; omega
  have h1 : (m : Int) - (a : Int) = 1 := by omega
  have hmb : m ≤ b := by omega
  have ham : a < m := by omega
  clear hc hs ha hm hb hN hBr hU hd hk
  go_enter Try.func67, Try.ntmps67
  go_wp2_with fail
  go_loopw [10, 11] (fun vi vj wr => ∃ (i j : Nat), vi = .int .i64 i ∧ vj = .int .i64 j ∧ m ≤ i ∧ i ≤ j ∧ j ≤ b ∧ Hid (m < i → ∀ y, B[i - 1 - m]? = some y → ltc c y x = true) ∧ Hid (∀ y, B[j - m]? = some y → ltc c y x = false) ∧ Hid (Kp [] w wr)) (fun vi vj _ => (intOf vj).toNat - (intOf vi).toNat)
  case atStart => exact ⟨m, b, rfl, rfl, Nat.le_refl _, hmb, Nat.le_refl _, Lib.hid (fun h => by omega), Lib.hid (fun y hy => by have := (List.getElem?_eq_some_iff.1 hy).1; have := HB.out; omega), Lib.hid (Kp.refl _ _)⟩
  case round =>
    obtain ⟨i, j, rfl, rfl, hmi, hij, hjb, HI1, HI2, HKR⟩ := hrel
    by_cases hlt : i < j
    · obtain ⟨h, hh⟩ : ∃ h, h = (i + j) / 2 := ⟨_, rfl⟩
      have eh : ((i : Int) + (j : Int)) / 2 = (h : Int) := by omega
      have hmh : m ≤ h := by omega
      have hhj : h < j := by omega
      have hih : i ≤ h := by omega
      obtain ⟨B1, y, B2, hBe, hB1, hBy⟩ := split_at B (h - m) (by have := HB.out; omega)
      have HBE := Lib.hid hBe
      have HBY := Lib.hid hBy
      have HB1 := Lib.hid hB1
      have CX : Hid (∀ W, Dat W g (P ++ ([x] ++ (B ++ S))) → W.rangeAt g (a * 10) x.cells ∧ W.rangeAt g (h * 10) y.cells) := Lib.hid (fun W hD => by
        have h1 := HA.out
        have h2 := HM.out
        have h3 := HB1.out
        exact ⟨(hD.at (Q := P) (Z := B ++ S) (x := x) (by simp) h1).1, (hD.at (Q := P ++ ([x] ++ B1)) (Z := B2 ++ S) (x := y) (by rw [HBE.out]; simp) (by simp; omega)).1⟩)
      obtain ⟨cv, hcv⟩ : ∃ v, v = c y x := ⟨_, rfl⟩
      have HCV := Lib.hid hcv
      have hcr : -9223372036854775808 ≤ cv ∧ cv ≤ 9223372036854775807 := by rw [hcv]; exact HC.out.rng y x
      have HUY : Hid (U y) := Lib.hid (HU.out.2 y (by rw [HBE.out]; simp))
      have heg := HC.out.enters
      obtain ⟨wo, rfl⟩ : ∃ wo : World, wo = wr := ⟨_, rfl⟩
      have HDO := Lib.hid (HD.out.keep0 HKR.out)
      have haN : a < N := by omega
      have hhN : h < N := by omega
      clear hh hBe hBy hB1 hcv
      go_upto_region 5 with (fail)
      refine wp_region_K (by kernel_rfl) [.val (.func (.func fc) #[] lb), .val (.slice (some ⟨g, 0, none⟩) N cap), .val (.int .i64 (h : Int)), .val (.pointer (some ⟨g, h * 10, none⟩)), .val (y.v), .val (.slice (some ⟨g, 0, none⟩) N cap), .val (.int .i64 (a : Int)), .val (.pointer (some ⟨g, a * 10, none⟩)), .val (x.v), .val (.int .i64 cv), .val (.bool (decide (cv < 0)))] [[(4, none)], [(0, none)], [(12, none)], [(41, some 1), (42, some 2)], [(43, some 3)], [(0, none)], [(1, none)], [(45, some 5), (46, some 6)], [(47, some 7)], [(40, some 0), (44, some 4), (48, some 8)], [(49, some 9)]] rfl (by kernel_rfl) ?_ ?_
      · refine ⟨?o0, ?o1, ?o2, ?o3, ?o4, ?o5, ?o6, ?o7, ?o8, ?o9, ?o10, trivial⟩
        case o0 => intro aR wR hR; replace hR := hR.undrew; intro (h4 : aR.tmps[4]? = some (.func (.func fc) #[] lb)); exact exec_val (c := .func (.func fc) #[] lb) (wanted_none rfl) (by go_simp) rfl
        case o1 => intro aR wR hR; replace hR := hR.undrew; intro (h0 : aR.tmps[0]? = some (.slice (some ⟨g, 0, none⟩) N cap)); exact exec_val (c := .slice (some ⟨g, 0, none⟩) N cap) (wanted_none rfl) (by go_simp) rfl
        case o2 => intro aR wR hR; replace hR := hR.undrew; intro (h12 : aR.tmps[12]? = some (.int .i64 (h : Int))); exact exec_val (c := .int .i64 (h : Int)) (wanted_none rfl) (by go_simp) rfl
        case o3 => intro aR wR hR; replace hR := hR.undrew; intro v41 h41 e41; replace e41 : v41 = .slice (some ⟨g, 0, none⟩) N cap := e41; subst e41; intro v42 h42 e42; replace e42 : v42 = .int .i64 (h : Int) := e42; subst e42; exact exec_val (c := .pointer (some ⟨g, h * 10, none⟩)) (wanted_none rfl) (by go_simp) rfl
        case o4 => intro aR wR hR; replace hR := hR.undrew; intro v43 h43 e43; replace e43 : v43 = .pointer (some ⟨g, h * 10, none⟩) := e43; subst e43; have hcc := (CX.out wR (HDO.out.keep0 hR)).2; exact exec_val (c := y.v) (wanted_none rfl) (exec_ld rfl (b := g) (o := h * 10) (by go_simp) hcc Try.underlying82 rfl (by kernel_rfl)) rfl
        case o5 => intro aR wR hR; replace hR := hR.undrew; intro (h0 : aR.tmps[0]? = some (.slice (some ⟨g, 0, none⟩) N cap)); exact exec_val (c := .slice (some ⟨g, 0, none⟩) N cap) (wanted_none rfl) (by go_simp) rfl
        case o6 => intro aR wR hR; replace hR := hR.undrew; intro (h1 : aR.tmps[1]? = some (.int .i64 (a : Int))); exact exec_val (c := .int .i64 (a : Int)) (wanted_none rfl) (by go_simp) rfl
        case o7 => intro aR wR hR; replace hR := hR.undrew; intro v45 h45 e45; replace e45 : v45 = .slice (some ⟨g, 0, none⟩) N cap := e45; subst e45; intro v46 h46 e46; replace e46 : v46 = .int .i64 (a : Int) := e46; subst e46; exact exec_val (c := .pointer (some ⟨g, a * 10, none⟩)) (wanted_none rfl) (by go_simp) rfl
        case o8 => intro aR wR hR; replace hR := hR.undrew; intro v47 h47 e47; replace e47 : v47 = .pointer (some ⟨g, a * 10, none⟩) := e47; subst e47; have hcc := (CX.out wR (HDO.out.keep0 hR)).1; exact exec_val (c := x.v) (wanted_none rfl) (exec_ld rfl (b := g) (o := a * 10) (by go_simp) hcc Try.underlying82 rfl (by kernel_rfl)) rfl
        case o9 => intro aR wR hR; replace hR := hR.undrew; intro v40 h40 e40; replace e40 : v40 = .func (.func fc) #[] lb := e40; subst e40; intro v44 h44 e44; replace e44 : v44 = y.v := e44; subst e44; intro v48 h48 e48; replace e48 : v48 = x.v := e48; subst e48; refine exec_call (wanted_none rfl) (by go_simp; exact ⟨rfl, rfl⟩) ?_; refine (HC.out.tells wR ((HK.out.trans HKR.out (U := [g]) (by simp) (by simp)).trans hR (U := [g]) (by simp) (by simp)) y x HUY.out HU.out.1).mono ?_; rintro e7 w8 ⟨rfl, kp8⟩; exact ⟨_, rfl, by rw [HCV.out]; rfl, kp8⟩
        case o10 => intro aR wR hR; replace hR := hR.undrew; intro v49 h49 e49; replace e49 : v49 = .int .i64 cv := e49; subst e49; exact exec_val (c := .bool (decide (cv < 0))) (wanted_none rfl) (by go_simp) rfl
      · intro vs wR hR hV
        obtain ⟨e0, e1, e2, e3, e4, e5, e6, e7, e8, e9, e10, -⟩ := hV
        replace e0 : vs 0 = .func (.func fc) #[] lb := e0
        replace e1 : vs 1 = .slice (some ⟨g, 0, none⟩) N cap := e1
        replace e2 : vs 2 = .int .i64 (h : Int) := e2
        replace e3 : vs 3 = .pointer (some ⟨g, h * 10, none⟩) := e3
        replace e4 : vs 4 = y.v := e4
        replace e5 : vs 5 = .slice (some ⟨g, 0, none⟩) N cap := e5
        replace e6 : vs 6 = .int .i64 (a : Int) := e6
        replace e7 : vs 7 = .pointer (some ⟨g, a * 10, none⟩) := e7
        replace e8 : vs 8 = x.v := e8
        replace e9 : vs 9 = .int .i64 cv := e9
        replace e10 : vs 10 = .bool (decide (cv < 0)) := e10
        simp only [putAll, e0, e1, e2, e3, e4, e5, e6, e7, e8, e9, e10, Nat.reduceAdd, Nat.zero_add]
        clear e0 e1 e2 e3 e4 e5 e6 e7 e8 e9 e10
        try simp only [List.setIfInBounds_toArray, List.set_cons_succ, List.set_cons_zero]
        have HKW := Lib.hid (HKR.out.tr hR)
        clear heg hR
        by_cases hcl : cv < 0
        · have hlx : ltc c y x = true := by unfold ltc; rw [← HCV.out]; simpa using hcl
          have HLX := Lib.hid hlx
          have hdc : decide (cv < 0) = true := by simpa using hcl
          clear hlx
          go_wp2_with fail
          go_roundw
          case rel => exact ⟨h + 1, j, by simp, rfl, by omega, by omega, hjb, Lib.hid (fun _ z hz => by
            rw [show h + 1 - 1 - m = h - m by omega, HBY.out] at hz; cases hz; exact HLX.out), HI2, HKW⟩
          case measure => simp [intOf]; omega
        · have hlx : ltc c y x = false := by unfold ltc; rw [← HCV.out]; simpa using hcl
          have HLX := Lib.hid hlx
          have hdc : decide (cv < 0) = false := by simpa using hcl
          clear hlx
          go_wp2_with fail
          go_roundw
          case rel => exact ⟨i, h, rfl, rfl, hmi, by omega, by omega, HI1, Lib.hid (fun z hz => by
            rw [HBY.out] at hz; cases hz; exact HLX.out), HKW⟩
          case measure => simp [intOf]; omega
    · obtain rfl : i = j := by omega
      obtain ⟨i1, hi1⟩ : ∃ i1, i1 = i - 1 := ⟨_, rfl⟩
      have ei : (i : Int) - 1 = (i1 : Int) := by omega
      have hai : a ≤ i1 := by omega
      have HI := Lib.hid hi1
      have HST := Lib.hid (left_law HS.out (d := i - m) (by have := HB.out; omega) HBR.out (fun hd y hy => HI1.out (by omega) y (by rw [show i - 1 - m = i - m - 1 by omega]; exact hy)) HI2.out)
      have HDO := Lib.hid (HD.out.keep0 HKR.out)
      have hbl : (B.take (i - m)).length = i - m := by have := HB.out; simp; omega
      have HBL := Lib.hid hbl
      have HBE : Hid (B = B.take (i - m) ++ B.drop (i - m)) := Lib.hid (List.take_append_drop _ _).symm
      clear hi1 hbl
      obtain ⟨wo, rfl⟩ : ∃ wo : World, wo = wr := ⟨_, rfl⟩
      go_wp2_with fail
      go_loopw [13] (fun vk wr => ∃ (k : Nat) (C1 C2 : List Rc), vk = .int .i64 k ∧ k ≤ i1 ∧ Hid (B.take (i - m) = C1 ++ C2) ∧ Hid (a + C1.length = k) ∧ Hid (Dat wr g (P ++ (C1 ++ x :: (C2 ++ (B.drop (i - m) ++ S))))) ∧ Hid (Kp [g] wo wr)) (fun vk _ => i1 - (intOf vk).toNat)
      case atStart => exact ⟨a, [], B.take (i - m), rfl, hai, Lib.hid rfl, Lib.hid rfl, Lib.hid (by have := HDO.out; rw [show B ++ S = B.take (i - m) ++ (B.drop (i - m) ++ S) by rw [← List.append_assoc, List.take_append_drop]] at this; simpa using this), Lib.hid (Kp.refl _ _)⟩
      case round =>
        obtain ⟨k, C1, C2, rfl, hk, HCE, HCL, HDK, HKK⟩ := hrel
        by_cases hlt2 : k < i1
        · obtain ⟨y, C2', hC2⟩ : ∃ y C2', C2 = y :: C2' := by
            cases C2 with
            | cons y t => exact ⟨y, t, rfl⟩
            | nil => exfalso; have h3 := congrArg List.length HCE.out; have h4 := HCL.out; have h5 := HBL.out; have h6 := HI.out; have h7 := HM.out; rw [h5] at h3; simp at h3; omega
          subst hC2
          obtain ⟨u, hu⟩ : ∃ u, u = k + 1 := ⟨_, rfl⟩
          have eu : (k : Int) + 1 = (u : Int) := by omega
          have hwu : IntKind.i64.wrap (u : Int) = (u : Int) := IntWalk.i64_in _ (by omega)
          have hkN : k < N := by have := HI.out; omega
          have huN : u < N := by have := HI.out; omega
          have hlen1 : (P ++ C1).length = k := by have := HA.out; have := HCL.out; simp; omega
          obtain ⟨xs, hxs⟩ : ∃ xs, xs = (P ++ C1) ++ x :: y :: (C2' ++ (B.drop (i - m) ++ S)) := ⟨_, rfl⟩
          have hD1 : Dat wr g xs := by rw [hxs]; have := HDK.out; simpa using this
          have HD1 := Lib.hid hD1
          have HXX : Hid (xs[k]? = some x) := Lib.hid (by rw [hxs]; exact get_at _ _ _ _ hlen1)
          have HYY : Hid (xs[u]? = some y) := Lib.hid (by
            rw [hxs, show (P ++ C1) ++ x :: y :: (C2' ++ (B.drop (i - m) ++ S)) = ((P ++ C1) ++ [x]) ++ y :: (C2' ++ (B.drop (i - m) ++ S)) by simp]
            exact get_at _ _ _ _ (by simp at hlen1 ⊢; omega))
          have HSW : Hid (swst 2 xs k u x y = P ++ ((C1 ++ [y]) ++ x :: (C2' ++ (B.drop (i - m) ++ S)))) := Lib.hid (by
            rw [hxs]
            have := sw_far (P ++ C1) [] (C2' ++ (B.drop (i - m) ++ S)) x y k u hlen1 (by simp at hlen1 ⊢; omega)
            rw [List.nil_append] at this
            rw [this]; simp)
          have HUK := Lib.hid hu
          clear hxs hD1 hlen1 hu
          obtain ⟨wk, rfl⟩ : ∃ wk : World, wk = wr := ⟨_, rfl⟩
          go_upto_region 11 with (fail)
          refine wp_region_HS (by kernel_rfl) [g] [.val (.slice (some ⟨g, 0, none⟩) N cap), .val (.int .i64 (k : Int)), .val (.slice (some ⟨g, 0, none⟩) N cap), .val (.int .i64 (k : Int)), .val (.int .i64 (u : Int)), .val (.slice (some ⟨g, 0, none⟩) N cap), .val (.int .i64 (k : Int)), .val (.int .i64 (u : Int)), .val (.pointer (some ⟨g, u * 10, none⟩)), .val (y.v), .val (.slice (some ⟨g, 0, none⟩) N cap), .val (.int .i64 (k : Int)), .val (.pointer (some ⟨g, k * 10, none⟩)), .val (x.v), .val (.pointer (some ⟨g, k * 10, none⟩)), .any, .val (.pointer (some ⟨g, u * 10, none⟩)), .any] [[(0, none)], [(13, none)], [(0, none)], [(13, none)], [(64, some 3)], [(0, none)], [(13, none)], [(67, some 6)], [(66, some 5), (68, some 7)], [(69, some 8)], [(0, none)], [(13, none)], [(71, some 10), (72, some 11)], [(73, some 12)], [(61, some 0), (62, some 1)], [(75, some 14), (70, some 9)], [(63, some 2), (65, some 4)], [(76, some 16), (74, some 13)]] [15, 17] (fun m wx => Dat wx g (swst m xs k u x y)) 18 rfl (by kernel_rfl) (by kernel_rfl) (by kernel_rfl) (by kernel_rfl) (by kernel_rfl) (by simp) (fun _ _ _ h k => h.keep0 k) (HD1.out) ?_ ?_
          · refine (ObH.free rfl ?o0 (ObH.free rfl ?o1 (ObH.free rfl ?o2 (ObH.free rfl ?o3 (ObH.free rfl ?o4 (ObH.free rfl ?o5 (ObH.free rfl ?o6 (ObH.free rfl ?o7 (ObH.free rfl ?o8 (ObH.free rfl ?o9 (ObH.free rfl ?o10 (ObH.free rfl ?o11 (ObH.free rfl ?o12 (ObH.free rfl ?o13 (ObH.free rfl ?o14 (ObH.chain 0 rfl ?o15 (ObH.free rfl ?o16 (ObH.chain 1 rfl ?o17 trivial))))))))))))))))))
            case o0 => intro aR wR mR hbd hR hI; replace hR := hR.undrew; intro (h0 : aR.tmps[0]? = some (.slice (some ⟨g, 0, none⟩) N cap)); exact exec_val (c := .slice (some ⟨g, 0, none⟩) N cap) (wanted_none rfl) (by go_simp) rfl
            case o1 => intro aR wR mR hbd hR hI; replace hR := hR.undrew; intro (h13 : aR.tmps[13]? = some (.int .i64 (k : Int))); exact exec_val (c := .int .i64 (k : Int)) (wanted_none rfl) (by go_simp) rfl
            case o2 => intro aR wR mR hbd hR hI; replace hR := hR.undrew; intro (h0 : aR.tmps[0]? = some (.slice (some ⟨g, 0, none⟩) N cap)); exact exec_val (c := .slice (some ⟨g, 0, none⟩) N cap) (wanted_none rfl) (by go_simp) rfl
            case o3 => intro aR wR mR hbd hR hI; replace hR := hR.undrew; intro (h13 : aR.tmps[13]? = some (.int .i64 (k : Int))); exact exec_val (c := .int .i64 (k : Int)) (wanted_none rfl) (by go_simp) rfl
            case o4 => intro aR wR mR hbd hR hI; replace hR := hR.undrew; intro v64 h64 e64; replace e64 : v64 = .int .i64 (k : Int) := e64; subst e64; exact exec_val (c := .int .i64 (u : Int)) (wanted_none rfl) (by go_simp) rfl
            case o5 => intro aR wR mR hbd hR hI; replace hR := hR.undrew; intro (h0 : aR.tmps[0]? = some (.slice (some ⟨g, 0, none⟩) N cap)); exact exec_val (c := .slice (some ⟨g, 0, none⟩) N cap) (wanted_none rfl) (by go_simp) rfl
            case o6 => intro aR wR mR hbd hR hI; replace hR := hR.undrew; intro (h13 : aR.tmps[13]? = some (.int .i64 (k : Int))); exact exec_val (c := .int .i64 (k : Int)) (wanted_none rfl) (by go_simp) rfl
            case o7 => intro aR wR mR hbd hR hI; replace hR := hR.undrew; intro v67 h67 e67; replace e67 : v67 = .int .i64 (k : Int) := e67; subst e67; exact exec_val (c := .int .i64 (u : Int)) (wanted_none rfl) (by go_simp) rfl
            case o8 => intro aR wR mR hbd hR hI; replace hR := hR.undrew; intro v66 h66 e66; replace e66 : v66 = .slice (some ⟨g, 0, none⟩) N cap := e66; subst e66; intro v68 h68 e68; replace e68 : v68 = .int .i64 (u : Int) := e68; subst e68; exact exec_val (c := .pointer (some ⟨g, u * 10, none⟩)) (wanted_none rfl) (by go_simp) rfl
            case o9 => intro aR wR mR hbd hR hI; replace hR := hR.undrew; intro v69 h69 e69; replace e69 : v69 = .pointer (some ⟨g, u * 10, none⟩) := e69; subst e69; have hm0 : mR ≤ 0 := hbd 0 15 rfl (by kernel_rfl); have hcc := ((sw_at HXX.out HYY.out hI).1 (by omega)).2; exact exec_val (c := y.v) (wanted_none rfl) (exec_ld rfl (b := g) (o := u * 10) (by go_simp) hcc Try.underlying82 rfl (by kernel_rfl)) rfl
            case o10 => intro aR wR mR hbd hR hI; replace hR := hR.undrew; intro (h0 : aR.tmps[0]? = some (.slice (some ⟨g, 0, none⟩) N cap)); exact exec_val (c := .slice (some ⟨g, 0, none⟩) N cap) (wanted_none rfl) (by go_simp) rfl
            case o11 => intro aR wR mR hbd hR hI; replace hR := hR.undrew; intro (h13 : aR.tmps[13]? = some (.int .i64 (k : Int))); exact exec_val (c := .int .i64 (k : Int)) (wanted_none rfl) (by go_simp) rfl
            case o12 => intro aR wR mR hbd hR hI; replace hR := hR.undrew; intro v71 h71 e71; replace e71 : v71 = .slice (some ⟨g, 0, none⟩) N cap := e71; subst e71; intro v72 h72 e72; replace e72 : v72 = .int .i64 (k : Int) := e72; subst e72; exact exec_val (c := .pointer (some ⟨g, k * 10, none⟩)) (wanted_none rfl) (by go_simp) rfl
            case o13 => intro aR wR mR hbd hR hI; replace hR := hR.undrew; intro v73 h73 e73; replace e73 : v73 = .pointer (some ⟨g, k * 10, none⟩) := e73; subst e73; have hm0 : mR ≤ 0 := hbd 0 15 rfl (by kernel_rfl); have hcc := ((sw_at HXX.out HYY.out hI).1 (by omega)).1; exact exec_val (c := x.v) (wanted_none rfl) (exec_ld rfl (b := g) (o := k * 10) (by go_simp) hcc Try.underlying82 rfl (by kernel_rfl)) rfl
            case o14 => intro aR wR mR hbd hR hI; replace hR := hR.undrew; intro v61 h61 e61; replace e61 : v61 = .slice (some ⟨g, 0, none⟩) N cap := e61; subst e61; intro v62 h62 e62; replace e62 : v62 = .int .i64 (k : Int) := e62; subst e62; exact exec_val (c := .pointer (some ⟨g, k * 10, none⟩)) (wanted_none rfl) (by go_simp) rfl
            case o15 => intro aR wR hR hI; replace hR := hR.undrew; intro v75 h75 e75; replace e75 : v75 = .pointer (some ⟨g, k * 10, none⟩) := e75; subst e75; intro v70 h70 e70; replace e70 : v70 = y.v := e70; subst e70; obtain ⟨-, t1, -⟩ := sw_at HXX.out HYY.out hI; obtain ⟨k1, d1⟩ := sw_one HXX.out hI; exact exec_skS (w' := wR.setCells g (k * 10) y.cells) (wanted_none rfl) (exec_st rfl (b := g) (o := k * 10) (cs := y.cells) (by go_simp) (by unfold Rc.v at *; go_simp) t1 (by kernel_rfl) (fun v hv => rclies.one y v hv)) trivial ⟨k1, d1⟩
            case o16 => intro aR wR mR hbd hR hI; replace hR := hR.undrew; intro v63 h63 e63; replace e63 : v63 = .slice (some ⟨g, 0, none⟩) N cap := e63; subst e63; intro v65 h65 e65; replace e65 : v65 = .int .i64 (u : Int) := e65; subst e65; exact exec_val (c := .pointer (some ⟨g, u * 10, none⟩)) (wanted_none rfl) (by go_simp) rfl
            case o17 => intro aR wR hR hI; replace hR := hR.undrew; intro v76 h76 e76; replace e76 : v76 = .pointer (some ⟨g, u * 10, none⟩) := e76; subst e76; intro v74 h74 e74; replace e74 : v74 = x.v := e74; subst e74; obtain ⟨-, -, t1⟩ := sw_at HXX.out HYY.out hI; obtain ⟨k1, d1⟩ := sw_two HYY.out hI; exact exec_skS (w' := wR.setCells g (u * 10) x.cells) (wanted_none rfl) (exec_st rfl (b := g) (o := u * 10) (cs := x.cells) (by go_simp) (by unfold Rc.v at *; go_simp) t1 (by kernel_rfl) (fun v hv => rclies.one x v hv)) trivial ⟨k1, d1⟩
          · intro vs wR hR hI hV
            obtain ⟨e0, e1, e2, e3, e4, e5, e6, e7, e8, e9, e10, e11, e12, e13, e14, e15, e16, e17, -⟩ := hV
            replace e0 : vs 0 = .slice (some ⟨g, 0, none⟩) N cap := e0
            replace e1 : vs 1 = .int .i64 (k : Int) := e1
            replace e2 : vs 2 = .slice (some ⟨g, 0, none⟩) N cap := e2
            replace e3 : vs 3 = .int .i64 (k : Int) := e3
            replace e4 : vs 4 = .int .i64 (u : Int) := e4
            replace e5 : vs 5 = .slice (some ⟨g, 0, none⟩) N cap := e5
            replace e6 : vs 6 = .int .i64 (k : Int) := e6
            replace e7 : vs 7 = .int .i64 (u : Int) := e7
            replace e8 : vs 8 = .pointer (some ⟨g, u * 10, none⟩) := e8
            replace e9 : vs 9 = y.v := e9
            replace e10 : vs 10 = .slice (some ⟨g, 0, none⟩) N cap := e10
            replace e11 : vs 11 = .int .i64 (k : Int) := e11
            replace e12 : vs 12 = .pointer (some ⟨g, k * 10, none⟩) := e12
            replace e13 : vs 13 = x.v := e13
            replace e14 : vs 14 = .pointer (some ⟨g, k * 10, none⟩) := e14
            replace e16 : vs 16 = .pointer (some ⟨g, u * 10, none⟩) := e16
            simp only [putAll, List.take_succ_cons, List.take_zero, List.drop_succ_cons, List.drop_zero, e0, e1, e2, e3, e4, e5, e6, e7, e8, e9, e10, e11, e12, e13, e14, e16, Nat.reduceAdd, Nat.zero_add]
            clear e0 e1 e2 e3 e4 e5 e6 e7 e8 e9 e10 e11 e12 e13 e14 e15 e16 e17
            try simp only [List.setIfInBounds_toArray, List.set_cons_succ, List.set_cons_zero]
            refine wpList_nil ?_
            have hD2 : Dat wR g (swst 2 xs k u x y) := hI
            rw [HSW.out] at hD2
            have HD2 := Lib.hid hD2
            clear hD2
            go_wp2_with fail
            go_roundw
            case rel => exact ⟨u, C1 ++ [y], C2', rfl, by have := HUK.out; omega, Lib.hid (by rw [HCE.out]; simp), Lib.hid (by have := HCL.out; have := HUK.out; simp; omega), HD2, Lib.hid (HKK.out.trans hR (by simp) (by simp))⟩
            case measure => have := HUK.out; simp [intOf]; omega
        · obtain rfl : k = i1 := by omega
          have hC2 : C2 = [] := by
            have h3 := congrArg List.length HCE.out; have h4 := HCL.out; have h5 := HBL.out; have h6 := HI.out; have h7 := HM.out; rw [h5] at h3; simp at h3; exact List.eq_nil_of_length_eq_zero (by omega)
          subst hC2
          go_wp2_with fail
          go_end0
          refine ⟨⟨_, rfl⟩, _, HST.out, ?_, (show Kp [g] w wo from kp_more HKR.out).trans HKK.out (by simp) (by simp)⟩
          have := HDK.out
          rw [HCE.out]
          simpa using this
end Go.Proofs.Ythmaobmgogmaoaa
namespace Go.Proofs.Ythmaobmgogmaoaa
open Go.RowKit
set_option linter.unusedSimpArgs false
set_option linter.unusedVariables false

set_option maxHeartbeats 1600000 in
set_option maxRecDepth 100000 in
theorem symm_right (g N cap a m b fc : Nat) (lb : Array Value) (c : Rc → Rc → Int) (U : Rc → Prop) (w0 : World) (hc : CmpOk g w0 U fc lb c) (hs : Swo (ltc c)) (P A S : List Rc) (y : Rc) (ha : P.length = a) (hm : a + A.length = m) (hb : m + 1 = b) (hA2 : 1 < A.length) (hN : (P ++ (A ++ ([y] ++ S))).length = N) (hNb : N ≤ 1000000)
    (hAr : Rises (ltc c) A) (hU : U y ∧ ∀ x ∈ A, U x) (w : World) (hd : Dat w g (P ++ (A ++ ([y] ++ S)))) (hk : Kp [g] w0 w) (hcap : N ≤ cap) :
    Calls Try.prog 67 #[.slice (some ⟨g, 0, none⟩) N cap, .int .i64 (a : Int), .int .i64 (m : Int), .int .i64 (b : Int), .func (.func fc) #[] lb] w (SymPost g c P A [y] S w) := by
  have HC := Lib.hid hc
  have HS := Lib.hid hs
  have HA := Lib.hid ha
  have HM := Lib.hid hm
  have HB := Lib.hid hb
  have HAR := Lib.hid hAr
  have HU := Lib.hid hU
  have HD := Lib.hid hd
  have HK := Lib.hid hk
  have hbN : b ≤ N := by rw [← hN]; simp; omega
  obtain ⟨ma, hma⟩ : ∃ x, x = m - a := ⟨_, rfl⟩
  have h1 : (m : Int) - (a : Int) = (ma : Int) := by omega
  have h1' : ((ma : Int) == 1) = false := by simp; omega
  have h2 : (b : Int) - (m : Int) = 1 := by omega
  have hmb : m < b := by omega
  have ham : a < m := by omega
  clear hc hs ha hm hb hN hAr hU hd hk hA2 hma
  go_enter Try.func67, Try.ntmps67
  go_wp2_with fail
  go_loopw [14, 15] (fun vi vj wr => ∃ (i j : Nat), vi = .int .i64 i ∧ vj = .int .i64 j ∧ a ≤ i ∧ i ≤ j ∧ j ≤ m ∧ Hid (a < i → ∀ x, A[i - 1 - a]? = some x → ltc c y x = false) ∧ Hid (∀ x, A[j - a]? = some x → ltc c y x = true) ∧ Hid (Kp [] w wr)) (fun vi vj _ => (intOf vj).toNat - (intOf vi).toNat)
  case atStart => exact ⟨a, m, rfl, rfl, Nat.le_refl _, by omega, Nat.le_refl _, Lib.hid (fun h => by omega), Lib.hid (fun y hy => by have := (List.getElem?_eq_some_iff.1 hy).1; have := HM.out; omega), Lib.hid (Kp.refl _ _)⟩
  case round =>
    obtain ⟨i, j, rfl, rfl, hmi, hij, hjb, HI1, HI2, HKR⟩ := hrel
    by_cases hlt : i < j
    · obtain ⟨h, hh⟩ : ∃ h, h = (i + j) / 2 := ⟨_, rfl⟩
      have eh : ((i : Int) + (j : Int)) / 2 = (h : Int) := by omega
      have hmh : a ≤ h := by omega
      have hhj : h < j := by omega
      have hih : i ≤ h := by omega
      obtain ⟨B1, x, B2, hBe, hB1, hBy⟩ := split_at A (h - a) (by have := HM.out; omega)
      have HBE := Lib.hid hBe
      have HBY := Lib.hid hBy
      have HB1 := Lib.hid hB1
      have CX : Hid (∀ W, Dat W g (P ++ (A ++ ([y] ++ S))) → W.rangeAt g (m * 10) y.cells ∧ W.rangeAt g (h * 10) x.cells) := Lib.hid (fun W hD => by
        have h1 := HA.out
        have h2 := HM.out
        have h3 := HB1.out
        exact ⟨(hD.at (Q := P ++ A) (Z := S) (x := y) (by simp) (by simp; omega)).1, (hD.at (Q := P ++ B1) (Z := B2 ++ ([y] ++ S)) (x := x) (by rw [HBE.out]; simp) (by simp; omega)).1⟩)
      obtain ⟨cv, hcv⟩ : ∃ v, v = c y x := ⟨_, rfl⟩
      have HCV := Lib.hid hcv
      have hcr : -9223372036854775808 ≤ cv ∧ cv ≤ 9223372036854775807 := by rw [hcv]; exact HC.out.rng y x
      have HUX : Hid (U x) := Lib.hid (HU.out.2 x (by rw [HBE.out]; simp))
      have heg := HC.out.enters
      obtain ⟨wo, rfl⟩ : ∃ wo : World, wo = wr := ⟨_, rfl⟩
      have HDO := Lib.hid (HD.out.keep0 HKR.out)
      have hmN : m < N := by omega
      have hhN : h < N := by omega
      clear hh hBe hBy hB1 hcv
      go_upto_region 17 with (fail)
      refine wp_region_K (by kernel_rfl) [.val (.func (.func fc) #[] lb), .val (.slice (some ⟨g, 0, none⟩) N cap), .val (.int .i64 (m : Int)), .val (.pointer (some ⟨g, m * 10, none⟩)), .val (y.v), .val (.slice (some ⟨g, 0, none⟩) N cap), .val (.int .i64 (h : Int)), .val (.pointer (some ⟨g, h * 10, none⟩)), .val (x.v), .val (.int .i64 cv), .val (.bool (decide (cv < 0))), .val (.bool (!decide (cv < 0)))] [[(4, none)], [(0, none)], [(2, none)], [(93, some 1), (94, some 2)], [(95, some 3)], [(0, none)], [(16, none)], [(97, some 5), (98, some 6)], [(99, some 7)], [(92, some 0), (96, some 4), (100, some 8)], [(101, some 9)], [(102, some 10)]] rfl (by kernel_rfl) ?_ ?_
      · refine ⟨?o0, ?o1, ?o2, ?o3, ?o4, ?o5, ?o6, ?o7, ?o8, ?o9, ?o10, ?o11, trivial⟩
        case o0 => intro aR wR hR; replace hR := hR.undrew; intro (h4 : aR.tmps[4]? = some (.func (.func fc) #[] lb)); exact exec_val (c := .func (.func fc) #[] lb) (wanted_none rfl) (by go_simp) rfl
        case o1 => intro aR wR hR; replace hR := hR.undrew; intro (h0 : aR.tmps[0]? = some (.slice (some ⟨g, 0, none⟩) N cap)); exact exec_val (c := .slice (some ⟨g, 0, none⟩) N cap) (wanted_none rfl) (by go_simp) rfl
        case o2 => intro aR wR hR; replace hR := hR.undrew; intro (h2 : aR.tmps[2]? = some (.int .i64 (m : Int))); exact exec_val (c := .int .i64 (m : Int)) (wanted_none rfl) (by go_simp) rfl
        case o3 => intro aR wR hR; replace hR := hR.undrew; intro v93 h93 e93; replace e93 : v93 = .slice (some ⟨g, 0, none⟩) N cap := e93; subst e93; intro v94 h94 e94; replace e94 : v94 = .int .i64 (m : Int) := e94; subst e94; exact exec_val (c := .pointer (some ⟨g, m * 10, none⟩)) (wanted_none rfl) (by go_simp) rfl
        case o4 => intro aR wR hR; replace hR := hR.undrew; intro v95 h95 e95; replace e95 : v95 = .pointer (some ⟨g, m * 10, none⟩) := e95; subst e95; have hcc := (CX.out wR (HDO.out.keep0 hR)).1; exact exec_val (c := y.v) (wanted_none rfl) (exec_ld rfl (b := g) (o := m * 10) (by go_simp) hcc Try.underlying82 rfl (by kernel_rfl)) rfl
        case o5 => intro aR wR hR; replace hR := hR.undrew; intro (h0 : aR.tmps[0]? = some (.slice (some ⟨g, 0, none⟩) N cap)); exact exec_val (c := .slice (some ⟨g, 0, none⟩) N cap) (wanted_none rfl) (by go_simp) rfl
        case o6 => intro aR wR hR; replace hR := hR.undrew; intro (h16 : aR.tmps[16]? = some (.int .i64 (h : Int))); exact exec_val (c := .int .i64 (h : Int)) (wanted_none rfl) (by go_simp) rfl
        case o7 => intro aR wR hR; replace hR := hR.undrew; intro v97 h97 e97; replace e97 : v97 = .slice (some ⟨g, 0, none⟩) N cap := e97; subst e97; intro v98 h98 e98; replace e98 : v98 = .int .i64 (h : Int) := e98; subst e98; exact exec_val (c := .pointer (some ⟨g, h * 10, none⟩)) (wanted_none rfl) (by go_simp) rfl
        case o8 => intro aR wR hR; replace hR := hR.undrew; intro v99 h99 e99; replace e99 : v99 = .pointer (some ⟨g, h * 10, none⟩) := e99; subst e99; have hcc := (CX.out wR (HDO.out.keep0 hR)).2; exact exec_val (c := x.v) (wanted_none rfl) (exec_ld rfl (b := g) (o := h * 10) (by go_simp) hcc Try.underlying82 rfl (by kernel_rfl)) rfl
        case o9 => intro aR wR hR; replace hR := hR.undrew; intro v92 h92 e92; replace e92 : v92 = .func (.func fc) #[] lb := e92; subst e92; intro v96 h96 e96; replace e96 : v96 = y.v := e96; subst e96; intro v100 h100 e100; replace e100 : v100 = x.v := e100; subst e100; refine exec_call (wanted_none rfl) (by go_simp; exact ⟨rfl, rfl⟩) ?_; refine (HC.out.tells wR ((HK.out.trans HKR.out (U := [g]) (by simp) (by simp)).trans hR (U := [g]) (by simp) (by simp)) y x HU.out.1 HUX.out).mono ?_; rintro e7 w8 ⟨rfl, kp8⟩; exact ⟨_, rfl, by rw [HCV.out]; rfl, kp8⟩
        case o10 => intro aR wR hR; replace hR := hR.undrew; intro v101 h101 e101; replace e101 : v101 = .int .i64 cv := e101; subst e101; exact exec_val (c := .bool (decide (cv < 0))) (wanted_none rfl) (by go_simp) rfl
        case o11 => intro aR wR hR; replace hR := hR.undrew; intro v102 h102 e102; replace e102 : v102 = .bool (decide (cv < 0)) := e102; subst e102; exact exec_val (c := .bool (!decide (cv < 0))) (wanted_none rfl) (by go_simp) rfl
      · intro vs wR hR hV
        obtain ⟨e0, e1, e2, e3, e4, e5, e6, e7, e8, e9, e10, e11, -⟩ := hV
        replace e0 : vs 0 = .func (.func fc) #[] lb := e0
        replace e1 : vs 1 = .slice (some ⟨g, 0, none⟩) N cap := e1
        replace e2 : vs 2 = .int .i64 (m : Int) := e2
        replace e3 : vs 3 = .pointer (some ⟨g, m * 10, none⟩) := e3
        replace e4 : vs 4 = y.v := e4
        replace e5 : vs 5 = .slice (some ⟨g, 0, none⟩) N cap := e5
        replace e6 : vs 6 = .int .i64 (h : Int) := e6
        replace e7 : vs 7 = .pointer (some ⟨g, h * 10, none⟩) := e7
        replace e8 : vs 8 = x.v := e8
        replace e9 : vs 9 = .int .i64 cv := e9
        replace e10 : vs 10 = .bool (decide (cv < 0)) := e10
        replace e11 : vs 11 = .bool (!decide (cv < 0)) := e11
        simp only [putAll, e0, e1, e2, e3, e4, e5, e6, e7, e8, e9, e10, e11, Nat.reduceAdd, Nat.zero_add]
        clear e0 e1 e2 e3 e4 e5 e6 e7 e8 e9 e10 e11
        try simp only [List.setIfInBounds_toArray, List.set_cons_succ, List.set_cons_zero]
        have HKW := Lib.hid (HKR.out.tr hR)
        clear heg hR
        by_cases hcl : cv < 0
        · have hlx : ltc c y x = true := by unfold ltc; rw [← HCV.out]; simpa using hcl
          have HLX := Lib.hid hlx
          have hdc : decide (cv < 0) = true := by simpa using hcl
          have hdn : (!decide (cv < 0)) = false := by rw [hdc]; rfl
          rw [hdn]
          clear hlx
          go_wp2_with fail
          go_roundw
          case rel => exact ⟨i, h, rfl, rfl, hmi, by omega, by omega, HI1, Lib.hid (fun z hz => by
            rw [HBY.out] at hz; cases hz; exact HLX.out), HKW⟩
          case measure => simp [intOf]; omega
        · have hlx : ltc c y x = false := by unfold ltc; rw [← HCV.out]; simpa using hcl
          have HLX := Lib.hid hlx
          have hdc : decide (cv < 0) = false := by simpa using hcl
          have hdn : (!decide (cv < 0)) = true := by rw [hdc]; rfl
          rw [hdn]
          clear hlx
          go_wp2_with fail
          go_roundw
          case rel => exact ⟨h + 1, j, by simp, rfl, by omega, by omega, hjb, Lib.hid (fun _ z hz => by
            rw [show h + 1 - 1 - a = h - a by omega, HBY.out] at hz; cases hz; exact HLX.out), HI2, HKW⟩
          case measure => simp [intOf]; omega
    · obtain rfl : i = j := by omega
      have HST := Lib.hid (right_law HS.out (d := i - a) (by have := HM.out; omega) HAR.out (fun hd y hy => HI1.out (by omega) y (by rw [show i - 1 - a = i - a - 1 by omega]; exact hy)) HI2.out)
      have HDO := Lib.hid (HD.out.keep0 HKR.out)
      have hbl : (A.take (i - a)).length = i - a := by have := HM.out; simp; omega
      have hbl2 : (A.drop (i - a)).length = m - i := by have := HM.out; simp; omega
      have HBL := Lib.hid hbl
      have HBL2 := Lib.hid hbl2
      clear hbl hbl2
      obtain ⟨wo, rfl⟩ : ∃ wo : World, wo = wr := ⟨_, rfl⟩
      go_wp2_with fail
      go_loopw [17] (fun vk wr => ∃ (k : Nat) (C1 C2 : List Rc), vk = .int .i64 k ∧ i ≤ k ∧ k ≤ m ∧ Hid (A.drop (i - a) = C1 ++ C2) ∧ Hid (i + C1.length = k) ∧ Hid (Dat wr g (P ++ (A.take (i - a) ++ (C1 ++ y :: (C2 ++ S))))) ∧ Hid (Kp [g] wo wr)) (fun vk _ => (intOf vk).toNat)
      case atStart => exact ⟨m, A.drop (i - a), [], rfl, hjb, Nat.le_refl _, Lib.hid (by simp), Lib.hid (by have := HBL2.out; omega), Lib.hid (by have := HDO.out; rw [show A ++ ([y] ++ S) = A.take (i - a) ++ (A.drop (i - a) ++ ([y] ++ S)) by rw [← List.append_assoc (A.take _), List.take_append_drop]] at this; simpa using this), Lib.hid (Kp.refl _ _)⟩
      case round =>
        obtain ⟨k, C1, C2, rfl, hik, hk, HCE, HCL, HDK, HKK⟩ := hrel
        by_cases hlt2 : i < k
        · obtain ⟨C1', x, hC1⟩ : ∃ C1' x, C1 = C1' ++ [x] := by
            rcases List.eq_nil_or_concat C1 with rfl | ⟨L, x, h⟩
            · exfalso; have := HCL.out; simp at this; omega
            · exact ⟨L, x, by rw [h, List.concat_eq_append]⟩
          subst hC1
          obtain ⟨u, hu⟩ : ∃ u, k = u + 1 := ⟨k - 1, by omega⟩
          have eu : (k : Int) - 1 = (u : Int) := by omega
          have hkN : k < N := by omega
          have huN : u < N := by omega
          have hwu : IntKind.i64.wrap (u : Int) = (u : Int) := IntWalk.i64_in _ (by omega)
          have hlen1 : (P ++ (A.take (i - a) ++ C1')).length = u := by have h3 := HA.out; have h4 := HCL.out; have h5 := HBL.out; rw [List.length_append, List.length_append, h5]; simp at h4; omega
          obtain ⟨xs, hxs⟩ : ∃ xs, xs = (P ++ (A.take (i - a) ++ C1')) ++ x :: y :: (C2 ++ S) := ⟨_, rfl⟩
          have hD1 : Dat wr g xs := by rw [hxs]; have := HDK.out; simpa using this
          have HD1 := Lib.hid hD1
          have HXX : Hid (xs[k]? = some y) := Lib.hid (by
            rw [hxs, hu, show (P ++ (A.take (i - a) ++ C1')) ++ x :: y :: (C2 ++ S) = ((P ++ (A.take (i - a) ++ C1')) ++ [x]) ++ y :: (C2 ++ S) by simp]
            exact get_at _ _ _ _ (by rw [List.length_append, hlen1]; rfl))
          have HYY : Hid (xs[u]? = some x) := Lib.hid (by rw [hxs]; exact get_at _ _ _ _ hlen1)
          have HSW : Hid (swst 2 xs k u y x = P ++ (A.take (i - a) ++ (C1' ++ y :: ((x :: C2) ++ S)))) := Lib.hid (by
            rw [hxs, hu, sw_back _ _ _ _ _ hlen1]; simp)
          have HUK := Lib.hid hu
          clear hxs hD1 hlen1 hu
          obtain ⟨wk, rfl⟩ : ∃ wk : World, wk = wr := ⟨_, rfl⟩
          go_upto_region 23 with (fail)
          refine wp_region_HS (by kernel_rfl) [g] [.val (.slice (some ⟨g, 0, none⟩) N cap), .val (.int .i64 (k : Int)), .val (.slice (some ⟨g, 0, none⟩) N cap), .val (.int .i64 (k : Int)), .val (.int .i64 (u : Int)), .val (.slice (some ⟨g, 0, none⟩) N cap), .val (.int .i64 (k : Int)), .val (.int .i64 (u : Int)), .val (.pointer (some ⟨g, u * 10, none⟩)), .val (x.v), .val (.slice (some ⟨g, 0, none⟩) N cap), .val (.int .i64 (k : Int)), .val (.pointer (some ⟨g, k * 10, none⟩)), .val (y.v), .val (.pointer (some ⟨g, k * 10, none⟩)), .any, .val (.pointer (some ⟨g, u * 10, none⟩)), .any] [[(0, none)], [(17, none)], [(0, none)], [(17, none)], [(116, some 3)], [(0, none)], [(17, none)], [(119, some 6)], [(118, some 5), (120, some 7)], [(121, some 8)], [(0, none)], [(17, none)], [(123, some 10), (124, some 11)], [(125, some 12)], [(113, some 0), (114, some 1)], [(127, some 14), (122, some 9)], [(115, some 2), (117, some 4)], [(128, some 16), (126, some 13)]] [15, 17] (fun m wx => Dat wx g (swst m xs k u y x)) 18 rfl (by kernel_rfl) (by kernel_rfl) (by kernel_rfl) (by kernel_rfl) (by kernel_rfl) (by simp) (fun _ _ _ h k => h.keep0 k) (HD1.out) ?_ ?_
          · refine (ObH.free rfl ?o0 (ObH.free rfl ?o1 (ObH.free rfl ?o2 (ObH.free rfl ?o3 (ObH.free rfl ?o4 (ObH.free rfl ?o5 (ObH.free rfl ?o6 (ObH.free rfl ?o7 (ObH.free rfl ?o8 (ObH.free rfl ?o9 (ObH.free rfl ?o10 (ObH.free rfl ?o11 (ObH.free rfl ?o12 (ObH.free rfl ?o13 (ObH.free rfl ?o14 (ObH.chain 0 rfl ?o15 (ObH.free rfl ?o16 (ObH.chain 1 rfl ?o17 trivial))))))))))))))))))
            case o0 => intro aR wR mR hbd hR hI; replace hR := hR.undrew; intro (h0 : aR.tmps[0]? = some (.slice (some ⟨g, 0, none⟩) N cap)); exact exec_val (c := .slice (some ⟨g, 0, none⟩) N cap) (wanted_none rfl) (by go_simp) rfl
            case o1 => intro aR wR mR hbd hR hI; replace hR := hR.undrew; intro (h17 : aR.tmps[17]? = some (.int .i64 (k : Int))); exact exec_val (c := .int .i64 (k : Int)) (wanted_none rfl) (by go_simp) rfl
            case o2 => intro aR wR mR hbd hR hI; replace hR := hR.undrew; intro (h0 : aR.tmps[0]? = some (.slice (some ⟨g, 0, none⟩) N cap)); exact exec_val (c := .slice (some ⟨g, 0, none⟩) N cap) (wanted_none rfl) (by go_simp) rfl
            case o3 => intro aR wR mR hbd hR hI; replace hR := hR.undrew; intro (h17 : aR.tmps[17]? = some (.int .i64 (k : Int))); exact exec_val (c := .int .i64 (k : Int)) (wanted_none rfl) (by go_simp) rfl
            case o4 => intro aR wR mR hbd hR hI; replace hR := hR.undrew; intro v116 h116 e116; replace e116 : v116 = .int .i64 (k : Int) := e116; subst e116; exact exec_val (c := .int .i64 (u : Int)) (wanted_none rfl) (by go_simp) rfl
            case o5 => intro aR wR mR hbd hR hI; replace hR := hR.undrew; intro (h0 : aR.tmps[0]? = some (.slice (some ⟨g, 0, none⟩) N cap)); exact exec_val (c := .slice (some ⟨g, 0, none⟩) N cap) (wanted_none rfl) (by go_simp) rfl
            case o6 => intro aR wR mR hbd hR hI; replace hR := hR.undrew; intro (h17 : aR.tmps[17]? = some (.int .i64 (k : Int))); exact exec_val (c := .int .i64 (k : Int)) (wanted_none rfl) (by go_simp) rfl
            case o7 => intro aR wR mR hbd hR hI; replace hR := hR.undrew; intro v119 h119 e119; replace e119 : v119 = .int .i64 (k : Int) := e119; subst e119; exact exec_val (c := .int .i64 (u : Int)) (wanted_none rfl) (by go_simp) rfl
            case o8 => intro aR wR mR hbd hR hI; replace hR := hR.undrew; intro v118 h118 e118; replace e118 : v118 = .slice (some ⟨g, 0, none⟩) N cap := e118; subst e118; intro v120 h120 e120; replace e120 : v120 = .int .i64 (u : Int) := e120; subst e120; exact exec_val (c := .pointer (some ⟨g, u * 10, none⟩)) (wanted_none rfl) (by go_simp) rfl
            case o9 => intro aR wR mR hbd hR hI; replace hR := hR.undrew; intro v121 h121 e121; replace e121 : v121 = .pointer (some ⟨g, u * 10, none⟩) := e121; subst e121; have hm0 : mR ≤ 0 := hbd 0 15 rfl (by kernel_rfl); have hcc := ((sw_at HXX.out HYY.out hI).1 (by omega)).2; exact exec_val (c := x.v) (wanted_none rfl) (exec_ld rfl (b := g) (o := u * 10) (by go_simp) hcc Try.underlying82 rfl (by kernel_rfl)) rfl
            case o10 => intro aR wR mR hbd hR hI; replace hR := hR.undrew; intro (h0 : aR.tmps[0]? = some (.slice (some ⟨g, 0, none⟩) N cap)); exact exec_val (c := .slice (some ⟨g, 0, none⟩) N cap) (wanted_none rfl) (by go_simp) rfl
            case o11 => intro aR wR mR hbd hR hI; replace hR := hR.undrew; intro (h17 : aR.tmps[17]? = some (.int .i64 (k : Int))); exact exec_val (c := .int .i64 (k : Int)) (wanted_none rfl) (by go_simp) rfl
            case o12 => intro aR wR mR hbd hR hI; replace hR := hR.undrew; intro v123 h123 e123; replace e123 : v123 = .slice (some ⟨g, 0, none⟩) N cap := e123; subst e123; intro v124 h124 e124; replace e124 : v124 = .int .i64 (k : Int) := e124; subst e124; exact exec_val (c := .pointer (some ⟨g, k * 10, none⟩)) (wanted_none rfl) (by go_simp) rfl
            case o13 => intro aR wR mR hbd hR hI; replace hR := hR.undrew; intro v125 h125 e125; replace e125 : v125 = .pointer (some ⟨g, k * 10, none⟩) := e125; subst e125; have hm0 : mR ≤ 0 := hbd 0 15 rfl (by kernel_rfl); have hcc := ((sw_at HXX.out HYY.out hI).1 (by omega)).1; exact exec_val (c := y.v) (wanted_none rfl) (exec_ld rfl (b := g) (o := k * 10) (by go_simp) hcc Try.underlying82 rfl (by kernel_rfl)) rfl
            case o14 => intro aR wR mR hbd hR hI; replace hR := hR.undrew; intro v113 h113 e113; replace e113 : v113 = .slice (some ⟨g, 0, none⟩) N cap := e113; subst e113; intro v114 h114 e114; replace e114 : v114 = .int .i64 (k : Int) := e114; subst e114; exact exec_val (c := .pointer (some ⟨g, k * 10, none⟩)) (wanted_none rfl) (by go_simp) rfl
            case o15 => intro aR wR hR hI; replace hR := hR.undrew; intro v127 h127 e127; replace e127 : v127 = .pointer (some ⟨g, k * 10, none⟩) := e127; subst e127; intro v122 h122 e122; replace e122 : v122 = x.v := e122; subst e122; obtain ⟨-, t1, -⟩ := sw_at HXX.out HYY.out hI; obtain ⟨k1, d1⟩ := sw_one HXX.out hI; exact exec_skS (w' := wR.setCells g (k * 10) x.cells) (wanted_none rfl) (exec_st rfl (b := g) (o := k * 10) (cs := x.cells) (by go_simp) (by unfold Rc.v at *; go_simp) t1 (by kernel_rfl) (fun v hv => rclies.one x v hv)) trivial ⟨k1, d1⟩
            case o16 => intro aR wR mR hbd hR hI; replace hR := hR.undrew; intro v115 h115 e115; replace e115 : v115 = .slice (some ⟨g, 0, none⟩) N cap := e115; subst e115; intro v117 h117 e117; replace e117 : v117 = .int .i64 (u : Int) := e117; subst e117; exact exec_val (c := .pointer (some ⟨g, u * 10, none⟩)) (wanted_none rfl) (by go_simp) rfl
            case o17 => intro aR wR hR hI; replace hR := hR.undrew; intro v128 h128 e128; replace e128 : v128 = .pointer (some ⟨g, u * 10, none⟩) := e128; subst e128; intro v126 h126 e126; replace e126 : v126 = y.v := e126; subst e126; obtain ⟨-, -, t1⟩ := sw_at HXX.out HYY.out hI; obtain ⟨k1, d1⟩ := sw_two HYY.out hI; exact exec_skS (w' := wR.setCells g (u * 10) y.cells) (wanted_none rfl) (exec_st rfl (b := g) (o := u * 10) (cs := y.cells) (by go_simp) (by unfold Rc.v at *; go_simp) t1 (by kernel_rfl) (fun v hv => rclies.one y v hv)) trivial ⟨k1, d1⟩
          · intro vs wR hR hI hV
            obtain ⟨e0, e1, e2, e3, e4, e5, e6, e7, e8, e9, e10, e11, e12, e13, e14, e15, e16, e17, -⟩ := hV
            replace e0 : vs 0 = .slice (some ⟨g, 0, none⟩) N cap := e0
            replace e1 : vs 1 = .int .i64 (k : Int) := e1
            replace e2 : vs 2 = .slice (some ⟨g, 0, none⟩) N cap := e2
            replace e3 : vs 3 = .int .i64 (k : Int) := e3
            replace e4 : vs 4 = .int .i64 (u : Int) := e4
            replace e5 : vs 5 = .slice (some ⟨g, 0, none⟩) N cap := e5
            replace e6 : vs 6 = .int .i64 (k : Int) := e6
            replace e7 : vs 7 = .int .i64 (u : Int) := e7
            replace e8 : vs 8 = .pointer (some ⟨g, u * 10, none⟩) := e8
            replace e9 : vs 9 = x.v := e9
            replace e10 : vs 10 = .slice (some ⟨g, 0, none⟩) N cap := e10
            replace e11 : vs 11 = .int .i64 (k : Int) := e11
            replace e12 : vs 12 = .pointer (some ⟨g, k * 10, none⟩) := e12
            replace e13 : vs 13 = y.v := e13
            replace e14 : vs 14 = .pointer (some ⟨g, k * 10, none⟩) := e14
            replace e16 : vs 16 = .pointer (some ⟨g, u * 10, none⟩) := e16
            simp only [putAll, List.take_succ_cons, List.take_zero, List.drop_succ_cons, List.drop_zero, e0, e1, e2, e3, e4, e5, e6, e7, e8, e9, e10, e11, e12, e13, e14, e16, Nat.reduceAdd, Nat.zero_add]
            clear e0 e1 e2 e3 e4 e5 e6 e7 e8 e9 e10 e11 e12 e13 e14 e15 e16 e17
            try simp only [List.setIfInBounds_toArray, List.set_cons_succ, List.set_cons_zero]
            refine wpList_nil ?_
            have hD2 : Dat wR g (swst 2 xs k u y x) := hI
            rw [HSW.out] at hD2
            have HD2 := Lib.hid hD2
            clear hD2
            go_wp2_with fail
            go_roundw
            case rel => exact ⟨u, C1', x :: C2, rfl, by have := HUK.out; omega, by have := HUK.out; omega, Lib.hid (by rw [HCE.out]; simp), Lib.hid (by have := HCL.out; have := HUK.out; simp at *; omega), HD2, Lib.hid (HKK.out.trans hR (by simp) (by simp))⟩
            case measure => have := HUK.out; simp [intOf]; omega
        · obtain rfl : k = i := by omega
          have hC1 : C1 = [] := List.eq_nil_of_length_eq_zero (by have := HCL.out; omega)
          subst hC1
          go_wp2_with fail
          go_end0
          refine ⟨⟨_, rfl⟩, _, HST.out, ?_, (show Kp [g] w wo from kp_more HKR.out).trans HKK.out (by simp) (by simp)⟩
          have h3 := HDK.out
          have h4 := HCE.out
          rw [List.nil_append] at h4
          rw [h4]
          simpa using h3
end Go.Proofs.Ythmaobmgogmaoaa
namespace Go.Proofs.Ythmaobmgogmaoaa
open Go.RowKit
set_option linter.unusedSimpArgs false
set_option linter.unusedVariables false

section
variable {α : Type} {lt : α → α → Bool}
theorem cut_law (hs : Swo lt) {A B : List α} {d1 d2 : Nat} (hA : Rises lt A) (hB : Rises lt B) (h1 : d1 ≤ A.length) (h2 : d2 ≤ B.length) (H1 : 0 < d1 → ∀ x y, A[d1 - 1]? = some x → B[d2]? = some y → lt y x = false) (H2 : 0 < d2 → ∀ x y, A[d1]? = some x → B[d2 - 1]? = some y → lt y x = true) :
    (∀ x ∈ A.take d1, ∀ y ∈ B.drop d2, lt y x = false) ∧ ∀ m ∈ B.take d2, ∀ a ∈ A.drop d1, lt m a = true := by
  refine ⟨fun x hx => ?_, fun m hm => ?_⟩
  · have h0 : 0 < d1 := by
      rcases Nat.eq_zero_or_pos d1 with h | h
      · subst h; simp at hx
      · exact h
    refine from_le hs hB (fun y0 hy0 => ?_)
    exact upto_le hs h1 hA (fun _ x0 hx0 => H1 h0 x0 y0 hx0 hy0) x hx
  · have h0 : 0 < d2 := by
      rcases Nat.eq_zero_or_pos d2 with h | h
      · subst h; simp at hm
      · exact h
    refine from_all hs hA (fun a0 ha0 => ?_)
    exact upto_all hs h2 hB (fun _ m0 hm0 => H2 h0 a0 m0 ha0 hm0) m hm
end

set_option maxHeartbeats 4000000 in
set_option maxRecDepth 100000 in
theorem symm_any (g N cap fc : Nat) (lb : Array Value) (c : Rc → Rc → Int) (U : Rc → Prop) (w0 : World) (hc : CmpOk g w0 U fc lb c) (hs : Swo (ltc c)) (hNb : N ≤ 1000000) (hcap : N ≤ cap) :
    ∀ (f a m b : Nat) (P A B S : List Rc), b - a ≤ f → P.length = a → a + A.length = m → m + B.length = b → 0 < A.length → 0 < B.length → (P ++ (A ++ (B ++ S))).length = N → Rises (ltc c) A → Rises (ltc c) B → (∀ x ∈ A, U x) → (∀ x ∈ B, U x) →
      ∀ w, Dat w g (P ++ (A ++ (B ++ S))) → Kp [g] w0 w →
      Calls Try.prog 67 #[.slice (some ⟨g, 0, none⟩) N cap, .int .i64 (a : Int), .int .i64 (m : Int), .int .i64 (b : Int), .func (.func fc) #[] lb] w (SymPost g c P A B S w) := by
  intro f
  induction f with
  | zero => intro a m b P A B S hf h1 h2 h3 h4 h5; omega
  | succ f ih =>
    intro a m b P A B S hf ha hm hb hA0 hB0 hN hAr hBr hUA hUB w hd hk
    by_cases hA1 : A.length = 1
    · obtain ⟨x, rfl⟩ := List.length_eq_one_iff.1 hA1
      exact symm_left g N cap a m b fc lb c U w0 hc hs P B S x ha (by simpa using hm) hb hN hNb hBr ⟨hUA x (by simp), hUB⟩ w hd hk hcap
    by_cases hB1 : B.length = 1
    · obtain ⟨y, rfl⟩ := List.length_eq_one_iff.1 hB1
      exact symm_right g N cap a m b fc lb c U w0 hc hs P A S y ha hm (by simpa using hb) (by omega) hN hNb hAr ⟨hUB y (by simp), hUA⟩ w hd hk hcap
    have hbN : b ≤ N := by rw [← hN]; simp; omega
    have HIH := Lib.hid ih
    have HC := Lib.hid hc
    have HS := Lib.hid hs
    have HF := Lib.hid hf
    have HP := Lib.hid ha
    have HAL := Lib.hid hm
    have HBL := Lib.hid hb
    have HN := Lib.hid hN
    have HAR := Lib.hid hAr
    have HBR := Lib.hid hBr
    have HUA := Lib.hid hUA
    have HUB := Lib.hid hUB
    have HD := Lib.hid hd
    have HK := Lib.hid hk
    have ham : a + 2 ≤ m := by omega
    have hmb : m + 2 ≤ b := by omega
    obtain ⟨ma, hma⟩ : ∃ x, x = m - a := ⟨_, rfl⟩
    obtain ⟨bm, hbm⟩ : ∃ x, x = b - m := ⟨_, rfl⟩
    have e1 : (m : Int) - (a : Int) = (ma : Int) := by omega
    have e1' : ((ma : Int) == 1) = false := by simp; omega
    have e2 : (b : Int) - (m : Int) = (bm : Int) := by omega
    have e2' : ((bm : Int) == 1) = false := by simp; omega
    obtain ⟨mid, hmid⟩ : ∃ x, x = (a + b) / 2 := ⟨_, rfl⟩
    have e3 : ((a : Int) + (b : Int)) / 2 = (mid : Int) := by omega
    have hmid1 : a < mid := by omega
    have hmid2 : mid < b := by omega
    have hmid3 : 2 * mid ≤ a + b ∧ a + b ≤ 2 * mid + 1 := by omega
    obtain ⟨nn, hnn⟩ : ∃ x, x = mid + m := ⟨_, rfl⟩
    have e4 : (mid : Int) + (m : Int) = (nn : Int) := by omega
    obtain ⟨p, hp⟩ : ∃ x, x = nn - 1 := ⟨_, rfl⟩
    have e5 : (nn : Int) - 1 = (p : Int) := by omega
    obtain ⟨s0, r0, hsr⟩ : ∃ s0 r0 : Nat, (mid < m ∧ s0 = nn - b ∧ r0 = mid) ∨ (m ≤ mid ∧ s0 = a ∧ r0 = m) := by
      by_cases h : mid < m
      · exact ⟨_, _, .inl ⟨h, rfl, rfl⟩⟩
      · exact ⟨_, _, .inr ⟨by omega, rfl, rfl⟩⟩
    have hs0 : a ≤ s0 ∧ s0 ≤ r0 ∧ r0 ≤ m ∧ r0 ≤ mid ∧ nn ≤ s0 + b := by omega
    have HSR := Lib.hid hsr
    have HMID := Lib.hid hmid3
    have HNN := Lib.hid hnn
    have HPP := Lib.hid hp
    clear ih hc hs hf ha hm hb hN hAr hBr hUA hUB hd hk hA1 hB1 hA0 hB0 hma hbm hmid hmid3 hnn hp
    have hnnN : nn ≤ 2000000 := by have := HNN.out; omega
    go_enter Try.func67, Try.ntmps67
    go_upto_if 140 with (fail)
    go_cut [20, 21] (fun vs vr wx => vs = .int .i64 (s0 : Int) ∧ vr = .int .i64 (r0 : Int) ∧ w = wx)
    case first =>
      rcases hsr with ⟨h1, h2, h3⟩ | ⟨h1, h2, h3⟩
      · have e6 : (nn : Int) - (b : Int) = (s0 : Int) := by have := HNN.out; omega
        clear h2
        subst h3
        go_wp2_with fail
        go_meet
        exact ⟨rfl, rfl, rfl⟩
      · subst h2
        subst h3
        go_wp2_with fail
        go_meet
        exact ⟨rfl, rfl, rfl⟩
    case rest =>
      obtain ⟨rfl, rfl, rfl⟩ := hcut
      clear hsr
      go_wp2_with fail
      go_loopw [20, 21] (fun vi vj wr => ∃ (i j : Nat), vi = .int .i64 i ∧ vj = .int .i64 j ∧ s0 ≤ i ∧ i ≤ j ∧ j ≤ r0 ∧ Hid (s0 < i → ∀ x y, A[i - 1 - a]? = some x → B[mid - i]? = some y → ltc c y x = false) ∧ Hid (j < r0 → ∀ x y, A[j - a]? = some x → B[mid - 1 - j]? = some y → ltc c y x = true) ∧ Hid (Kp [] w wr)) (fun vi vj _ => (intOf vj).toNat - (intOf vi).toNat)
      case atStart => exact ⟨s0, r0, rfl, rfl, Nat.le_refl _, hs0.2.1, Nat.le_refl _, Lib.hid (fun h => by omega), Lib.hid (fun h => by omega), Lib.hid (Kp.refl _ _)⟩
      case round =>
        obtain ⟨i, j, rfl, rfl, hmi, hij, hjb, HI1, HI2, HKR⟩ := hrel
        by_cases hlt : i < j
        · obtain ⟨h, hh⟩ : ∃ h, h = (i + j) / 2 := ⟨_, rfl⟩
          have eh : ((i : Int) + (j : Int)) / 2 = (h : Int) := by omega
          have hhj : h < j := by omega
          have hih : i ≤ h := by omega
          obtain ⟨q, hq⟩ : ∃ q, q = p - h := ⟨_, rfl⟩
          have eq : (p : Int) - (h : Int) = (q : Int) := by have := HPP.out; have := HNN.out; omega
          have hqm : m ≤ q ∧ q < b := by have := HPP.out; have := HNN.out; omega
          have hwq : IntKind.i64.wrap (q : Int) = (q : Int) := IntWalk.i64_in _ (by omega)
          obtain ⟨A1, x, A2, hAe, hA1, hAx⟩ := split_at A (h - a) (by have := HAL.out; omega)
          obtain ⟨B1, y, B2, hBe, hB1, hBy⟩ := split_at B (q - m) (by have := HBL.out; omega)
          have HAE := Lib.hid hAe
          have HA1 := Lib.hid hA1
          have HAX := Lib.hid hAx
          have HBE := Lib.hid hBe
          have HB1 := Lib.hid hB1
          have HBY := Lib.hid (show B[mid - 1 - h]? = some y by rw [← hBy]; congr 1; have := HPP.out; have := HNN.out; omega)
          have CX : Hid (∀ W, Dat W g (P ++ (A ++ (B ++ S))) → W.rangeAt g (h * 10) x.cells ∧ W.rangeAt g (q * 10) y.cells) := Lib.hid (fun W hD => by
            have h1 := HP.out
            have h2 := HAL.out
            have h3 := HA1.out
            have h4 := HB1.out
            exact ⟨(hD.at (Q := P ++ A1) (Z := A2 ++ (B ++ S)) (x := x) (by rw [HAE.out]; simp) (by simp; omega)).1, (hD.at (Q := P ++ (A ++ B1)) (Z := B2 ++ S) (x := y) (by rw [HBE.out]; simp) (by simp; omega)).1⟩)
          obtain ⟨cv, hcv⟩ : ∃ v, v = c y x := ⟨_, rfl⟩
          have HCV := Lib.hid hcv
          have hcr : -9223372036854775808 ≤ cv ∧ cv ≤ 9223372036854775807 := by rw [hcv]; exact HC.out.rng y x
          have HUX : Hid (U x ∧ U y) := Lib.hid ⟨HUA.out x (by rw [HAE.out]; simp), HUB.out y (by rw [HBE.out]; simp)⟩
          have heg := HC.out.enters
          obtain ⟨wo, rfl⟩ : ∃ wo : World, wo = wr := ⟨_, rfl⟩
          have HDO := Lib.hid (HD.out.keep0 HKR.out)
          have hqN : q < N := by omega
          have hhN : h < N := by omega
          clear hh hAe hA1 hAx hBe hBy hB1 hcv hq
          go_upto_region 35 with (fail)
          refine wp_region_K (by kernel_rfl) [.val (.func (.func fc) #[] lb), .val (.slice (some ⟨g, 0, none⟩) N cap), .val (.int .i64 (p : Int)), .val (.int .i64 (h : Int)), .val (.int .i64 (q : Int)), .val (.pointer (some ⟨g, q * 10, none⟩)), .val (y.v), .val (.slice (some ⟨g, 0, none⟩) N cap), .val (.int .i64 (h : Int)), .val (.pointer (some ⟨g, h * 10, none⟩)), .val (x.v), .val (.int .i64 cv), .val (.bool (decide (cv < 0))), .val (.bool (!decide (cv < 0)))] [[(4, none)], [(0, none)], [(22, none)], [(23, none)], [(160, some 2), (161, some 3)], [(159, some 1), (162, some 4)], [(163, some 5)], [(0, none)], [(23, none)], [(165, some 7), (166, some 8)], [(167, some 9)], [(158, some 0), (164, some 6), (168, some 10)], [(169, some 11)], [(170, some 12)]] rfl (by kernel_rfl) ?_ ?_
          · refine ⟨?o0, ?o1, ?o2, ?o3, ?o4, ?o5, ?o6, ?o7, ?o8, ?o9, ?o10, ?o11, ?o12, ?o13, trivial⟩
            case o0 => intro aR wR hR; replace hR := hR.undrew; intro (h4 : aR.tmps[4]? = some (.func (.func fc) #[] lb)); exact exec_val (c := .func (.func fc) #[] lb) (wanted_none rfl) (by go_simp) rfl
            case o1 => intro aR wR hR; replace hR := hR.undrew; intro (h0 : aR.tmps[0]? = some (.slice (some ⟨g, 0, none⟩) N cap)); exact exec_val (c := .slice (some ⟨g, 0, none⟩) N cap) (wanted_none rfl) (by go_simp) rfl
            case o2 => intro aR wR hR; replace hR := hR.undrew; intro (h22 : aR.tmps[22]? = some (.int .i64 (p : Int))); exact exec_val (c := .int .i64 (p : Int)) (wanted_none rfl) (by go_simp) rfl
            case o3 => intro aR wR hR; replace hR := hR.undrew; intro (h23 : aR.tmps[23]? = some (.int .i64 (h : Int))); exact exec_val (c := .int .i64 (h : Int)) (wanted_none rfl) (by go_simp) rfl
            case o4 => intro aR wR hR; replace hR := hR.undrew; intro v160 h160 e160; replace e160 : v160 = .int .i64 (p : Int) := e160; subst e160; intro v161 h161 e161; replace e161 : v161 = .int .i64 (h : Int) := e161; subst e161; exact exec_val (c := .int .i64 (q : Int)) (wanted_none rfl) (by go_simp) rfl
            case o5 => intro aR wR hR; replace hR := hR.undrew; intro v159 h159 e159; replace e159 : v159 = .slice (some ⟨g, 0, none⟩) N cap := e159; subst e159; intro v162 h162 e162; replace e162 : v162 = .int .i64 (q : Int) := e162; subst e162; exact exec_val (c := .pointer (some ⟨g, q * 10, none⟩)) (wanted_none rfl) (by go_simp) rfl
            case o6 => intro aR wR hR; replace hR := hR.undrew; intro v163 h163 e163; replace e163 : v163 = .pointer (some ⟨g, q * 10, none⟩) := e163; subst e163; have hcc := (CX.out wR (HDO.out.keep0 hR)).2; exact exec_val (c := y.v) (wanted_none rfl) (exec_ld rfl (b := g) (o := q * 10) (by go_simp) hcc Try.underlying82 rfl (by kernel_rfl)) rfl
            case o7 => intro aR wR hR; replace hR := hR.undrew; intro (h0 : aR.tmps[0]? = some (.slice (some ⟨g, 0, none⟩) N cap)); exact exec_val (c := .slice (some ⟨g, 0, none⟩) N cap) (wanted_none rfl) (by go_simp) rfl
            case o8 => intro aR wR hR; replace hR := hR.undrew; intro (h23 : aR.tmps[23]? = some (.int .i64 (h : Int))); exact exec_val (c := .int .i64 (h : Int)) (wanted_none rfl) (by go_simp) rfl
            case o9 => intro aR wR hR; replace hR := hR.undrew; intro v165 h165 e165; replace e165 : v165 = .slice (some ⟨g, 0, none⟩) N cap := e165; subst e165; intro v166 h166 e166; replace e166 : v166 = .int .i64 (h : Int) := e166; subst e166; exact exec_val (c := .pointer (some ⟨g, h * 10, none⟩)) (wanted_none rfl) (by go_simp) rfl
            case o10 => intro aR wR hR; replace hR := hR.undrew; intro v167 h167 e167; replace e167 : v167 = .pointer (some ⟨g, h * 10, none⟩) := e167; subst e167; have hcc := (CX.out wR (HDO.out.keep0 hR)).1; exact exec_val (c := x.v) (wanted_none rfl) (exec_ld rfl (b := g) (o := h * 10) (by go_simp) hcc Try.underlying82 rfl (by kernel_rfl)) rfl
            case o11 => intro aR wR hR; replace hR := hR.undrew; intro v158 h158 e158; replace e158 : v158 = .func (.func fc) #[] lb := e158; subst e158; intro v164 h164 e164; replace e164 : v164 = y.v := e164; subst e164; intro v168 h168 e168; replace e168 : v168 = x.v := e168; subst e168; refine exec_call (wanted_none rfl) (by go_simp; exact ⟨rfl, rfl⟩) ?_; refine (HC.out.tells wR ((HK.out.trans HKR.out (U := [g]) (by simp) (by simp)).trans hR (U := [g]) (by simp) (by simp)) y x HUX.out.2 HUX.out.1).mono ?_; rintro e7 w8 ⟨rfl, kp8⟩; exact ⟨_, rfl, by rw [HCV.out]; rfl, kp8⟩
            case o12 => intro aR wR hR; replace hR := hR.undrew; intro v169 h169 e169; replace e169 : v169 = .int .i64 cv := e169; subst e169; exact exec_val (c := .bool (decide (cv < 0))) (wanted_none rfl) (by go_simp) rfl
            case o13 => intro aR wR hR; replace hR := hR.undrew; intro v170 h170 e170; replace e170 : v170 = .bool (decide (cv < 0)) := e170; subst e170; exact exec_val (c := .bool (!decide (cv < 0))) (wanted_none rfl) (by go_simp) rfl
          · intro vs wR hR hV
            obtain ⟨e0, e1, e2, e3, e4, e5, e6, e7, e8, e9, e10, e11, e12, e13, -⟩ := hV
            replace e0 : vs 0 = .func (.func fc) #[] lb := e0
            replace e1 : vs 1 = .slice (some ⟨g, 0, none⟩) N cap := e1
            replace e2 : vs 2 = .int .i64 (p : Int) := e2
            replace e3 : vs 3 = .int .i64 (h : Int) := e3
            replace e4 : vs 4 = .int .i64 (q : Int) := e4
            replace e5 : vs 5 = .pointer (some ⟨g, q * 10, none⟩) := e5
            replace e6 : vs 6 = y.v := e6
            replace e7 : vs 7 = .slice (some ⟨g, 0, none⟩) N cap := e7
            replace e8 : vs 8 = .int .i64 (h : Int) := e8
            replace e9 : vs 9 = .pointer (some ⟨g, h * 10, none⟩) := e9
            replace e10 : vs 10 = x.v := e10
            replace e11 : vs 11 = .int .i64 cv := e11
            replace e12 : vs 12 = .bool (decide (cv < 0)) := e12
            replace e13 : vs 13 = .bool (!decide (cv < 0)) := e13
            simp only [putAll, e0, e1, e2, e3, e4, e5, e6, e7, e8, e9, e10, e11, e12, e13, Nat.reduceAdd, Nat.zero_add]
            clear e0 e1 e2 e3 e4 e5 e6 e7 e8 e9 e10 e11 e12 e13
            try simp only [List.setIfInBounds_toArray, List.set_cons_succ, List.set_cons_zero]
            have HKW := Lib.hid (HKR.out.tr hR)
            clear heg hR
            by_cases hcl : cv < 0
            · have hlx : ltc c y x = true := by unfold ltc; rw [← HCV.out]; simpa using hcl
              have HLX := Lib.hid hlx
              have hdc : decide (cv < 0) = true := by simpa using hcl
              have hdn : (!decide (cv < 0)) = false := by rw [hdc]; rfl
              rw [hdn]
              clear hlx
              go_wp2_with fail
              go_roundw
              case rel => exact ⟨i, h, rfl, rfl, hmi, by omega, by omega, HI1, Lib.hid (fun _ x' y' hx' hy' => by
                rw [HAX.out] at hx'; cases hx'; rw [HBY.out] at hy'; cases hy'; exact HLX.out), HKW⟩
              case measure => simp [intOf]; omega
            · have hlx : ltc c y x = false := by unfold ltc; rw [← HCV.out]; simpa using hcl
              have HLX := Lib.hid hlx
              have hdc : decide (cv < 0) = false := by simpa using hcl
              have hdn : (!decide (cv < 0)) = true := by rw [hdc]; rfl
              rw [hdn]
              clear hlx
              go_wp2_with fail
              go_roundw
              case rel => exact ⟨h + 1, j, by simp, rfl, by omega, by omega, hjb, Lib.hid (fun _ x' y' hx' hy' => by
                rw [show h + 1 - 1 - a = h - a by omega, HAX.out] at hx'; cases hx'; rw [show mid - (h + 1) = mid - 1 - h by omega, HBY.out] at hy'; cases hy'; exact HLX.out), HI2, HKW⟩
              case measure => simp [intOf]; omega
        · obtain rfl : i = j := by omega
          have him : i ≤ m := by omega
          have himid : i ≤ mid := by omega
          have hai : a ≤ i := by omega
          obtain ⟨en, hen⟩ : ∃ x, x = nn - i := ⟨_, rfl⟩
          have e7 : (nn : Int) - (i : Int) = (en : Int) := by have := HNN.out; omega
          have hen1 : en ≤ b ∧ mid ≤ en ∧ m ≤ en := by have := HNN.out; omega
          have hcl := cut_law HS.out (A := A) (B := B) (d1 := i - a) (d2 := mid - i) HAR.out HBR.out (by have := HAL.out; omega) (by have := HBL.out; have := HNN.out; omega)
            (fun h0 x y hx hy => by
              by_cases hsi : s0 < i
              · exact HI1.out hsi x y (by rw [← hx]; congr 1; omega) hy
              · exfalso
                have h9 := (List.getElem?_eq_some_iff.1 hy).1
                have h8 := HBL.out
                have h7 := HNN.out
                rcases HSR.out with ⟨g1, g2, g3⟩ | ⟨g1, g2, g3⟩ <;> omega)
            (fun h0 x y hx hy => by
              by_cases hsi : i < r0
              · exact HI2.out hsi x y hx (by rw [← hy]; congr 1; omega)
              · exfalso
                have h9 := (List.getElem?_eq_some_iff.1 hx).1
                have h8 := HAL.out
                have h7 := HNN.out
                rcases HSR.out with ⟨g1, g2, g3⟩ | ⟨g1, g2, g3⟩ <;> omega)
          obtain ⟨A1, hA1⟩ : ∃ x, x = A.take (i - a) := ⟨_, rfl⟩
          obtain ⟨A2, hA2⟩ : ∃ x, x = A.drop (i - a) := ⟨_, rfl⟩
          obtain ⟨B1, hB1⟩ : ∃ x, x = B.take (mid - i) := ⟨_, rfl⟩
          obtain ⟨B2, hB2⟩ : ∃ x, x = B.drop (mid - i) := ⟨_, rfl⟩
          have hAe : A = A1 ++ A2 := by rw [hA1, hA2, List.take_append_drop]
          have hBe : B = B1 ++ B2 := by rw [hB1, hB2, List.take_append_drop]
          have hl1 : a + A1.length = i := by have := HAL.out; rw [hA1]; simp; omega
          have hl2 : i + A2.length = m := by have := HAL.out; rw [hA2]; simp; omega
          have hl3 : i + B1.length = mid := by have := HBL.out; have := HNN.out; rw [hB1]; simp; omega
          have hl4 : en + B2.length = b := by have := HBL.out; have := HNN.out; rw [hB2]; simp; omega
          rw [← hA1, ← hA2, ← hB1, ← hB2] at hcl
          clear hA1 hA2 hB1 hB2 HI1 HI2
          subst hAe
          subst hBe
          have HCL := Lib.hid hcl
          have HL1 := Lib.hid hl1
          have HL2 := Lib.hid hl2
          have HL3 := Lib.hid hl3
          have HL4 := Lib.hid hl4
          have HEN := Lib.hid hen
          have hcm : m + B1.length = en := by have := HNN.out; omega
          have HCM := Lib.hid hcm
          obtain ⟨wo, rfl⟩ : ∃ wo : World, wo = wr := ⟨_, rfl⟩
          have HDO := Lib.hid (HD.out.keep0 HKR.out)
          have HLN : Hid (P.length + (A1.length + (A2.length + (B1.length + (B2.length + S.length)))) = N) := Lib.hid (by have := HN.out; simp at this; omega)
          clear hcl hl1 hl2 hl3 hl4 hen hcm
          have HROT : Hid (∀ W, Dat W g (P ++ ((A1 ++ A2) ++ ((B1 ++ B2) ++ S))) → i < m → m < en → Calls Try.prog 69 #[.slice (some ⟨g, 0, none⟩) N cap, .int .i64 (i : Int), .int .i64 (m : Int), .int .i64 (en : Int), .func (.func fc) #[] lb] W fun e w' => (∃ v, e = .returned v) ∧ Dat w' g (P ++ (A1 ++ (B1 ++ (A2 ++ (B2 ++ S))))) ∧ Kp [g] W w') := Lib.hid (fun W hD g1 g2 => by
            refine (rotate_any g N cap i m en (.func (.func fc) #[] lb) (P ++ A1) A2 B1 (B2 ++ S) (by have := HP.out; have := HL1.out; simp; omega) HL2.out HCM.out (by have := HL2.out; omega) (by have := HCM.out; omega) (by have := HLN.out; simp; omega) hNb W (by simpa using hD) hcap).mono ?_
            rintro e w' ⟨hv, hD, hk⟩
            exact ⟨hv, by simpa using hD, hk⟩)
          have HSL : Hid (∀ W, Kp [g] w0 W → Dat W g (P ++ (A1 ++ (B1 ++ (A2 ++ (B2 ++ S))))) → a < i → i < mid → Calls Try.prog 67 #[.slice (some ⟨g, 0, none⟩) N cap, .int .i64 (a : Int), .int .i64 (i : Int), .int .i64 (mid : Int), .func (.func fc) #[] lb] W fun e w' => (∃ v, e = .returned v) ∧ ∃ R1, Stab (ltc c) (A1 ++ B1) R1 ∧ Dat w' g (P ++ (R1 ++ (A2 ++ (B2 ++ S)))) ∧ Kp [g] W w') := Lib.hid (fun W hK hD g1 g2 => by
            exact HIH.out a i mid P A1 B1 (A2 ++ (B2 ++ S)) (by have := HF.out; omega) HP.out HL1.out HL3.out (by have := HL1.out; omega) (by have := HL3.out; omega) (by have := HLN.out; simp; omega) (List.pairwise_append.1 HAR.out).1 (List.pairwise_append.1 HBR.out).1 (fun x hx => HUA.out x (List.mem_append_left _ hx)) (fun x hx => HUB.out x (List.mem_append_left _ hx)) W hD hK)
          have HSR : Hid (∀ W R1, Stab (ltc c) (A1 ++ B1) R1 → Kp [g] w0 W → Dat W g (P ++ (R1 ++ (A2 ++ (B2 ++ S)))) → mid < en → en < b → Calls Try.prog 67 #[.slice (some ⟨g, 0, none⟩) N cap, .int .i64 (mid : Int), .int .i64 (en : Int), .int .i64 (b : Int), .func (.func fc) #[] lb] W fun e w' => (∃ v, e = .returned v) ∧ ∃ R2, Stab (ltc c) (A2 ++ B2) R2 ∧ Dat w' g (P ++ (R1 ++ (R2 ++ S))) ∧ Kp [g] W w') := Lib.hid (fun W R1 hS1 hK hD g1 g2 => by
            have hlr := hS1.len HS.out
            have q1 := HP.out
            have q2 := HL1.out
            have q3 := HL3.out
            have q4 := HL2.out
            have q5 := HCM.out
            rw [List.length_append] at hlr
            refine (HIH.out mid en b (P ++ R1) A2 B2 S (by have := HF.out; omega) (by simp; omega) (by omega) HL4.out (by omega) (by have := HL4.out; omega) (by have := HLN.out; simp; omega) (List.pairwise_append.1 HAR.out).2.1 (List.pairwise_append.1 HBR.out).2.1 (fun x hx => HUA.out x (List.mem_append_right _ hx)) (fun x hx => HUB.out x (List.mem_append_right _ hx)) W (by simpa using hD) hK).mono ?_
            rintro e w' ⟨hv, R2, h1, h2, h3⟩
            exact ⟨hv, R2, h1, by simpa using h2, h3⟩)
          have HNROT : Hid (¬ (i < m ∧ m < en) → ∀ W, Dat W g (P ++ ((A1 ++ A2) ++ ((B1 ++ B2) ++ S))) → Dat W g (P ++ (A1 ++ (B1 ++ (A2 ++ (B2 ++ S)))))) := Lib.hid (fun hno W hD => by
            have q4 := HL2.out
            have q5 := HCM.out
            by_cases h : A2 = []
            · subst h; simpa using hD
            · have hB : B1 = [] := List.eq_nil_of_length_eq_zero (by have := List.length_pos_iff.2 h; omega)
              subst hB; simpa using hD)
          have HNL : Hid (¬ (a < i ∧ i < mid) → Stab (ltc c) (A1 ++ B1) (A1 ++ B1)) := Lib.hid (fun hno => by
            have q2 := HL1.out
            have q3 := HL3.out
            refine Stab.refl ?_
            by_cases h : A1 = []
            · subst h; exact (List.pairwise_append.1 HBR.out).1
            · have hB : B1 = [] := List.eq_nil_of_length_eq_zero (by have := List.length_pos_iff.2 h; omega)
              subst hB; rw [List.append_nil]; exact (List.pairwise_append.1 HAR.out).1)
          have HNRR : Hid (¬ (mid < en ∧ en < b) → Stab (ltc c) (A2 ++ B2) (A2 ++ B2)) := Lib.hid (fun hno => by
            have q3 := HL3.out
            have q4 := HL2.out
            have q5 := HCM.out
            have q6 := HL4.out
            refine Stab.refl ?_
            by_cases h : A2 = []
            · subst h; exact (List.pairwise_append.1 HBR.out).2.1
            · have hB : B2 = [] := List.eq_nil_of_length_eq_zero (by have := List.length_pos_iff.2 h; omega)
              subst hB; rw [List.append_nil]; exact (List.pairwise_append.1 HAR.out).2.1)
          have HEND : Hid (∀ W v R1 R2, Stab (ltc c) (A1 ++ B1) R1 → Stab (ltc c) (A2 ++ B2) R2 → Dat W g (P ++ (R1 ++ (R2 ++ S))) → Kp [g] w W → SymPost g c P (A1 ++ A2) (B1 ++ B2) S w (.returned v) W) := Lib.hid (fun W v R1 R2 h1 h2 hD hK =>
            ⟨⟨_, rfl⟩, R1 ++ R2, stab_cut HS.out HAR.out HBR.out HCL.out.1 HCL.out.2 h1 h2, by simpa using hD, hK⟩)
          by_cases hrot : i < m ∧ m < en
          · have hr1 := hrot.1
            have hr2 := hrot.2
            clear hrot
            go_upto_region 41 with (go_at_call 69; refine (HROT.out _ HDO.out hr1 hr2).mono ?_; rintro e w5 ⟨⟨v5, rfl⟩, hD1, kp5⟩)
            have hK1 := (show Kp [g] w wo from kp_more HKR.out).trans kp5 (U := [g]) (by simp) (by simp)
            clear hr1 hr2 kp5
            by_cases hLL : a < i ∧ i < mid
            · have hl1 := hLL.1
              have hl2 := hLL.2
              clear hLL
              go_upto_region 43 with (go_at_call 67; refine (HSL.out _ (HK.out.trans hK1 (by simp) (by simp)) hD1 hl1 hl2).mono ?_; clear HSL; rintro e w6 ⟨⟨v6, rfl⟩, R1, hS1, hD2, kp6⟩)
              have hK2 := hK1.trans kp6 (U := [g]) (by simp) (by simp)
              clear hl1 hl2 kp6 hK1 hD1
              by_cases hRR : mid < en ∧ en < b
              · have hr1 := hRR.1
                have hr2 := hRR.2
                clear hRR
                go_wp2_with (go_at_call 67; refine (HSR.out _ _ hS1 (HK.out.trans hK2 (by simp) (by simp)) hD2 hr1 hr2).mono ?_; clear HSR; rintro e w7 ⟨⟨v7, rfl⟩, R2, hS2, hD3, kp7⟩)
                have hK3 := hK2.trans kp7 (U := [g]) (by simp) (by simp)
                go_end0
                exact HEND.out _ _ _ _ hS1 hS2 hD3 hK3
              · have hS2 := HNRR.out hRR
                have hD3 := hD2
                have hK3 := hK2
                rw [show A2 ++ (B2 ++ S) = (A2 ++ B2) ++ S by simp] at hD3
                go_wp2_with fail
                all_goals
                  go_end0
                  exact HEND.out _ _ _ _ hS1 hS2 hD3 hK3
            · have hS1 := HNL.out hLL
              have hD2 := hD1
              have hK2 := hK1
              rw [show A1 ++ (B1 ++ (A2 ++ (B2 ++ S))) = (A1 ++ B1) ++ (A2 ++ (B2 ++ S)) by simp] at hD2
              clear hK1 hD1
              go_upto_region 43 with (fail)
              all_goals
                by_cases hRR : mid < en ∧ en < b
                · have hr1 := hRR.1
                  have hr2 := hRR.2
                  clear hRR
                  go_wp2_with (go_at_call 67; refine (HSR.out _ _ hS1 (HK.out.trans hK2 (by simp) (by simp)) hD2 hr1 hr2).mono ?_; clear HSR; rintro e w7 ⟨⟨v7, rfl⟩, R2, hS2, hD3, kp7⟩)
                  have hK3 := hK2.trans kp7 (U := [g]) (by simp) (by simp)
                  go_end0
                  exact HEND.out _ _ _ _ hS1 hS2 hD3 hK3
                · have hS2 := HNRR.out hRR
                  have hD3 := hD2
                  have hK3 := hK2
                  rw [show A2 ++ (B2 ++ S) = (A2 ++ B2) ++ S by simp] at hD3
                  go_wp2_with fail
                  all_goals
                    go_end0
                    exact HEND.out _ _ _ _ hS1 hS2 hD3 hK3
          · have hD1 := HNROT.out hrot wo HDO.out
            have hK1 : Kp [g] w wo := kp_more HKR.out
            go_upto_region 41 with (fail)
            all_goals
              by_cases hLL : a < i ∧ i < mid
              · have hl1 := hLL.1
                have hl2 := hLL.2
                clear hLL
                go_upto_region 43 with (go_at_call 67; refine (HSL.out _ (HK.out.trans hK1 (by simp) (by simp)) hD1 hl1 hl2).mono ?_; clear HSL; rintro e w6 ⟨⟨v6, rfl⟩, R1, hS1, hD2, kp6⟩)
                have hK2 := hK1.trans kp6 (U := [g]) (by simp) (by simp)
                clear hl1 hl2 kp6 hK1 hD1
                by_cases hRR : mid < en ∧ en < b
                · have hr1 := hRR.1
                  have hr2 := hRR.2
                  clear hRR
                  go_wp2_with (go_at_call 67; refine (HSR.out _ _ hS1 (HK.out.trans hK2 (by simp) (by simp)) hD2 hr1 hr2).mono ?_; clear HSR; rintro e w7 ⟨⟨v7, rfl⟩, R2, hS2, hD3, kp7⟩)
                  have hK3 := hK2.trans kp7 (U := [g]) (by simp) (by simp)
                  go_end0
                  exact HEND.out _ _ _ _ hS1 hS2 hD3 hK3
                · have hS2 := HNRR.out hRR
                  have hD3 := hD2
                  have hK3 := hK2
                  rw [show A2 ++ (B2 ++ S) = (A2 ++ B2) ++ S by simp] at hD3
                  go_wp2_with fail
                  all_goals
                    go_end0
                    exact HEND.out _ _ _ _ hS1 hS2 hD3 hK3
              · have hS1 := HNL.out hLL
                have hD2 := hD1
                have hK2 := hK1
                rw [show A1 ++ (B1 ++ (A2 ++ (B2 ++ S))) = (A1 ++ B1) ++ (A2 ++ (B2 ++ S)) by simp] at hD2
                clear hK1 hD1
                go_upto_region 43 with (fail)
                all_goals
                  by_cases hRR : mid < en ∧ en < b
                  · have hr1 := hRR.1
                    have hr2 := hRR.2
                    clear hRR
                    go_wp2_with (go_at_call 67; refine (HSR.out _ _ hS1 (HK.out.trans hK2 (by simp) (by simp)) hD2 hr1 hr2).mono ?_; clear HSR; rintro e w7 ⟨⟨v7, rfl⟩, R2, hS2, hD3, kp7⟩)
                    have hK3 := hK2.trans kp7 (U := [g]) (by simp) (by simp)
                    go_end0
                    exact HEND.out _ _ _ _ hS1 hS2 hD3 hK3
                  · have hS2 := HNRR.out hRR
                    have hD3 := hD2
                    have hK3 := hK2
                    rw [show A2 ++ (B2 ++ S) = (A2 ++ B2) ++ S by simp] at hD3
                    go_wp2_with fail
                    all_goals
                      go_end0
                      exact HEND.out _ _ _ _ hS1 hS2 hD3 hK3
end Go.Proofs.Ythmaobmgogmaoaa
namespace Go.Proofs.Ythmaobmgogmaoaa
open Go.RowKit
set_option linter.unusedSimpArgs false
set_option linter.unusedVariables false

theorem cut_len {α : Type} (l : List α) (k : Nat) (h : k ≤ l.length) : ∃ l1 l2, l = l1 ++ l2 ∧ l1.length = k := ⟨l.take k, l.drop k, (List.take_append_drop k l).symm, by simp; omega⟩

set_option maxHeartbeats 4000000 in
set_option maxRecDepth 100000 in
theorem stable_any (g N cap fc : Nat) (lb : Array Value) (c : Rc → Rc → Int) (U : Rc → Prop) (w : World) (hc : CmpOk g w U fc lb c) (hs : Swo (ltc c)) (hNb : N ≤ 1000000) (hcap : N ≤ cap) (xs : List Rc) (hN : xs.length = N) (hU : ∀ x ∈ xs, U x) (hd : Dat w g xs) :
    Calls Try.prog 64 #[.slice (some ⟨g, 0, none⟩) N cap, .int .i64 (N : Int), .func (.func fc) #[] lb] w fun e w' => (∃ v, e = .returned v) ∧ ∃ R, Stab (ltc c) xs R ∧ Dat w' g R ∧ Kp [g] w w' := by
  have HC := Lib.hid hc
  have HS := Lib.hid hs
  have HN := Lib.hid hN
  have HU := Lib.hid hU
  have HD := Lib.hid hd
  clear hc hs hN hU hd
  go_enter Try.func64, Try.ntmps64
  go_wp2_with fail
  go_loopw [7, 8] (fun va vb wr => ∃ (a : Nat) (Xd Xt D : List Rc), va = .int .i64 a ∧ vb = .int .i64 ((a + 20 : Nat) : Int) ∧ a ≤ N ∧ Hid (xs = Xd ++ Xt) ∧ Hid (Ful (ltc c) 20 Xd D) ∧ Hid (Xd.length = a) ∧ Hid (Dat wr g (D ++ Xt)) ∧ Hid (Kp [g] w wr)) (fun va _ _ => N - (intOf va).toNat)
  case atStart => exact ⟨0, [], xs, [], rfl, rfl, Nat.zero_le _, Lib.hid rfl, Lib.hid Ful.nil, Lib.hid rfl, HD, Lib.hid (Kp.refl _ _)⟩
  case round =>
    obtain ⟨a, Xd, Xt, D, rfl, rfl, haN, HX, HF, HXL, HDR, HKR⟩ := hrel
    have HDL : Hid (D.length = a) := Lib.hid (by rw [HF.out.len, HXL.out])
    obtain ⟨b, hb⟩ : ∃ b, b = a + 20 := ⟨_, rfl⟩
    rw [← hb]
    have HB := Lib.hid hb
    have hwb : IntKind.i64.wrap ((b : Int) + 20) = (((b + 20 : Nat) : Nat) : Int) := by rw [IntWalk.i64_in _ (by omega)]; omega
    clear hb
    by_cases hle : b ≤ N
    · obtain ⟨X1, X2, hXe, hX1⟩ := cut_len Xt 20 (by have := HX.out; have h2 := HN.out; have h3 := HXL.out; rw [this] at h2; simp at h2; have := HB.out; omega)
      subst hXe
      have HX1 := Lib.hid hX1
      clear hX1
      go_wp2_with fail
      refine (insort_any g N cap a b fc lb c U w HC.out HS.out D X1 X2 HDL.out (by have := HDL.out; have := HX1.out; have := HB.out; simp; omega) (by have h1 := HX.out; have h2 := HN.out; have h3 := HXL.out; have h4 := HDL.out; rw [h1] at h2; simp at h2 ⊢; omega) hNb (fun x hx => HU.out x (by rw [HX.out]; simp [hx])) wr HDR.out HKR.out hcap).mono ?_
      rintro e w5 ⟨⟨v, rfl⟩, R, hR, hD5, kp5⟩
      have HR := Lib.hid hR
      have HD5 := Lib.hid hD5
      clear hR hD5
      go_wp2_with fail
      go_roundw
      case rel => exact ⟨b, Xd ++ X1, X2, D ++ R, rfl, by go_num, hle, Lib.hid (by rw [HX.out]; simp), Lib.hid (Ful.snoc HF.out HX1.out (by rw [HR.out.len HS.out, HX1.out]) HR.out), Lib.hid (by have := HXL.out; have := HX1.out; have := HB.out; simp; omega), Lib.hid (by simpa using HD5.out), Lib.hid (HKR.out.trans kp5 (by simp) (by simp))⟩
      case measure => have := HB.out; simp [intOf]; omega
    · go_wp2_with fail
      have hXtl : a + Xt.length = N := by have h1 := HX.out; have h2 := HN.out; have h3 := HXL.out; rw [h1] at h2; simp at h2; omega
      have HXT := Lib.hid hXtl
      refine (insort_any g N cap a N fc lb c U w HC.out HS.out D Xt [] HDL.out (by have := HDL.out; simp; omega) (by have := HDL.out; simp; omega) hNb (fun x hx => HU.out x (by rw [HX.out]; simp [hx])) wr (by simpa using HDR.out) HKR.out hcap).mono ?_
      rintro e w5 ⟨⟨v, rfl⟩, R, hR, hD5, kp5⟩
      rw [List.append_nil] at hD5
      have HBK : Hid (Blk (ltc c) 20 xs (D ++ R)) := Lib.hid (by
        rw [HX.out]
        exact HF.out.blk (Blk.last (by have := HB.out; omega) (hR.len HS.out) hR))
      have HD5 := Lib.hid hD5
      have HK5 := Lib.hid (show Kp [g] w w5 from HKR.out.trans kp5 (by simp) (by simp))
      obtain ⟨L0, hL0⟩ : ∃ L0, L0 = D ++ R := ⟨_, rfl⟩
      rw [← hL0] at HBK HD5
      clear hR hD5 kp5 HF HDR HKR hL0 HX HXL HDL HXT hXtl hwb HB hle haN
      go_wp2_with fail
      go_loopw [6] (fun vs wr => ∃ (bs : Nat) (L : List Rc), vs = .int .i64 bs ∧ 0 < bs ∧ bs ≤ 2000000 ∧ Hid (Blk (ltc c) bs xs L) ∧ Hid (Dat wr g L) ∧ Hid (Kp [g] w wr)) (fun vs _ => N - (intOf vs).toNat)
      case atStart => exact ⟨20, L0, rfl, by omega, by omega, HBK, HD5, HK5⟩
      case round =>
        obtain ⟨bs, L, rfl, hbs, hbs2, HBL, HDL, HKL⟩ := hrel
        by_cases hlt : bs < N
        · have e1 : (2 : Int) * (bs : Int) = ((2 * bs : Nat) : Int) := by omega
          have e2 : (bs : Int) * 2 = ((2 * bs : Nat) : Int) := by omega
          obtain ⟨b2, hb2⟩ : ∃ b2, b2 = 2 * bs := ⟨_, rfl⟩
          rw [← hb2] at e1 e2
          have HB2 := Lib.hid hb2
          have hb2l : b2 ≤ 2000000 := by omega
          clear hb2
          obtain ⟨wo, rfl⟩ : ∃ wo : World, wo = wr := ⟨_, rfl⟩
          go_wp2_with fail
          go_loopw [7, 8] (fun va vb wr => ∃ (a : Nat) (Xd Xt D T : List Rc), va = .int .i64 a ∧ vb = .int .i64 ((a + b2 : Nat) : Int) ∧ a ≤ N ∧ Hid (xs = Xd ++ Xt) ∧ Hid (Ful (ltc c) b2 Xd D) ∧ Hid (Xd.length = a) ∧ Hid (Blk (ltc c) bs Xt T) ∧ Hid (Dat wr g (D ++ T)) ∧ Hid (Kp [g] wo wr)) (fun va _ _ => N - (intOf va).toNat)
          case atStart => exact ⟨0, [], xs, [], L, rfl, by simp, Nat.zero_le _, Lib.hid rfl, Lib.hid Ful.nil, Lib.hid rfl, HBL, HDL, Lib.hid (Kp.refl _ _)⟩
          case round =>
            obtain ⟨a, Xd, Xt, D, T, rfl, rfl, haN, HX, HF, HXL, HT, HDR, HKR⟩ := hrel
            have HDLen : Hid (D.length = a) := Lib.hid (by rw [HF.out.len, HXL.out])
            have HXT : Hid (a + Xt.length = N) := Lib.hid (by have h1 := HX.out; have h2 := HN.out; have h3 := HXL.out; rw [h1] at h2; simp at h2; omega)
            obtain ⟨b, hb⟩ : ∃ b, b = a + b2 := ⟨_, rfl⟩
            rw [← hb]
            have HB := Lib.hid hb
            have hbb : b ≤ 3000000 := by omega
            have hwb : IntKind.i64.wrap ((b : Int) + (b2 : Int)) = ((b + b2 : Nat) : Int) := by rw [IntWalk.i64_in _ (by omega)]; omega
            obtain ⟨mm, hmm⟩ : ∃ mm, mm = a + bs := ⟨_, rfl⟩
            have e3 : (a : Int) + (bs : Int) = (mm : Int) := by omega
            have HM := Lib.hid hmm
            have hmb : mm ≤ 3000000 := by omega
            have HKW := Lib.hid (show Kp [g] w wr from HKL.out.trans HKR.out (by simp) (by simp))
            clear hb hmm
            by_cases hle : b ≤ N
            · obtain ⟨l1, l2, l3, r1, r2, r3, rfl, rfl, g1, g2, g3, g4, g5, g6, g7, g8, g9⟩ := HT.out.two hbs (by have := HXT.out; have := HB.out; have := HB2.out; omega)
              have hl2 : l2.length = bs := by
                rcases Nat.lt_or_ge l2.length bs with h | h
                · exfalso
                  have h3 := (g9 h).1
                  subst h3
                  have := HB.out; have := HB2.out
                  have h4 := HXT.out
                  simp at h4
                  omega
                · omega
              have G3 := Lib.hid g3
              have G5 := Lib.hid g5
              have G8 := Lib.hid g8
              have GL : Hid (l1.length = bs ∧ r1.length = bs ∧ l2.length = bs ∧ r2.length = bs) := Lib.hid ⟨g1, g2, hl2, by omega⟩
              clear g1 g2 g3 g4 g5 g6 g7 g8 g9 hl2 HT
              go_wp2_with fail
              refine (symm_any g N cap fc lb c U w HC.out HS.out hNb hcap (b - a) a mm b D r1 r2 r3 (Nat.le_refl _) HDLen.out (by have := GL.out.2.1; have := HM.out; omega) (by have := GL.out.2.2.2; have := HM.out; have := HB.out; have := HB2.out; omega) (by have := GL.out.2.1; omega) (by have := GL.out.2.2.2; omega) (by
                have h1 := HXT.out; have h2 := GL.out; have h3 := G8.out.len; have h4 := HDLen.out; simp at h1 ⊢; omega) G3.out.1 G5.out.1 (fun x hx => HU.out x (by rw [HX.out]; simp [G3.out.mem HS.out hx])) (fun x hx => HU.out x (by rw [HX.out]; simp [G5.out.mem HS.out hx])) wr HDR.out HKW.out).mono ?_
              rintro e w6 ⟨⟨v6, rfl⟩, R, hR, hD6, kp6⟩
              have HR := Lib.hid (G3.out.join G5.out hR)
              have HRL : Hid (R.length = b2) := Lib.hid (by rw [hR.len HS.out, List.length_append]; have := GL.out; have := HB2.out; omega)
              have HD6 := Lib.hid hD6
              clear hR hD6
              go_wp2_with fail
              go_roundw
              case rel => exact ⟨b, Xd ++ (l1 ++ l2), l3, D ++ R, r3, rfl, by first | rfl | go_num, hle, Lib.hid (by rw [HX.out]; simp), Lib.hid (Ful.snoc HF.out (by have := GL.out; have := HB2.out; simp; omega) HRL.out HR.out), Lib.hid (by have := GL.out; have := HXL.out; have := HB.out; have := HB2.out; simp; omega), G8, Lib.hid (by simpa using HD6.out), Lib.hid (HKR.out.trans kp6 (by simp) (by simp))⟩
              case measure => have := HB.out; have := HB2.out; simp [intOf]; omega
            · by_cases hml : mm < N
              · obtain ⟨l1, l2, l3, r1, r2, r3, rfl, rfl, g1, g2, g3, g4, g5, g6, g7, g8, g9⟩ := HT.out.two hbs (by have := HXT.out; have := HM.out; omega)
                have hl2 : l2.length < bs := by have h1 := HXT.out; have := HB.out; have := HB2.out; simp at h1; omega
                obtain ⟨rfl, rfl⟩ := g9 hl2
                have G3 := Lib.hid g3
                have G5 := Lib.hid g5
                have GL : Hid (l1.length = bs ∧ r1.length = bs ∧ r2.length = l2.length ∧ 0 < l2.length ∧ l2.length < bs) := Lib.hid ⟨g1, g2, g4, g7, hl2⟩
                clear g1 g2 g3 g4 g5 g6 g7 g8 g9 hl2 HT
                go_wp2_with fail
                refine (symm_any g N cap fc lb c U w HC.out HS.out hNb hcap (N - a) a mm N D r1 r2 [] (Nat.le_refl _) HDLen.out (by have := GL.out.2.1; have := HM.out; omega) (by have h1 := GL.out; have h2 := HXT.out; have := HM.out; simp at h2; omega) (by have := GL.out; omega) (by have := GL.out; omega) (by
                  have h1 := HXT.out; have h2 := GL.out; have h4 := HDLen.out; simp at h1 ⊢; omega) G3.out.1 G5.out.1 (fun x hx => HU.out x (by rw [HX.out]; simp [G3.out.mem HS.out hx])) (fun x hx => HU.out x (by rw [HX.out]; simp [G5.out.mem HS.out hx])) wr HDR.out HKW.out).mono ?_
                rintro e w6 ⟨⟨v6, rfl⟩, R, hR, hD6, kp6⟩
                have HBN : Hid (Blk (ltc c) b2 xs (D ++ R)) := Lib.hid (by
                  rw [HX.out]
                  have hj := G3.out.join G5.out hR
                  exact HF.out.blk (by rw [List.append_nil]; exact Blk.last (by have := GL.out; have := HB2.out; simp; omega) (hj.len HS.out) hj))
                have HD6 := Lib.hid hD6
                clear hR hD6
                go_wp2_with fail
                go_roundw
                case rel => exact ⟨b2, D ++ R, by first | rfl | (rw [e2]), by have := HB2.out; omega, hb2l, HBN, Lib.hid (by simpa using HD6.out), Lib.hid (HKW.out.trans kp6 (by simp) (by simp))⟩
                case measure => have := HB2.out; simp [intOf]; omega
              · have HBN : Hid (Blk (ltc c) b2 xs (D ++ T)) := Lib.hid (by
                  rw [HX.out]
                  exact HF.out.blk (HT.out.short (by have := HXT.out; have := HM.out; omega) (by have := HB2.out; omega)))
                go_wp2_with fail
                go_roundw
                case rel => exact ⟨b2, D ++ T, by first | rfl | (rw [e2]), by have := HB2.out; omega, hb2l, HBN, HDR, HKW⟩
                case measure => have := HB2.out; simp [intOf]; omega
        · go_wp2_with fail
          go_end0
          exact ⟨⟨_, rfl⟩, L, HBL.out.whole (by have := HN.out; omega), HDL.out, HKL.out⟩

theorem sortSt_any (g N cap fc : Nat) (lb : Array Value) (c : Rc → Rc → Int) (U : Rc → Prop) (w : World) (hc : CmpOk g w U fc lb c) (hs : Swo (ltc c)) (hNb : N ≤ 1000000) (hcap : N ≤ cap) (xs : List Rc) (hN : xs.length = N) (hU : ∀ x ∈ xs, U x) (hd : Dat w g xs) :
    Calls Try.prog 56 #[.slice (some ⟨g, 0, none⟩) N cap, .func (.func fc) #[] lb] w fun e w' => (∃ v, e = .returned v) ∧ ∃ R, Stab (ltc c) xs R ∧ Dat w' g R ∧ Kp [g] w w' := by
  have H := Lib.hid (stable_any g N cap fc lb c U w hc hs hNb hcap xs hN hU hd)
  clear hc hs hN hU hd
  go_enter Try.func56, Try.ntmps56
  go_wp2_with fail
  refine H.out.mono ?_
  rintro e w5 ⟨⟨v, rfl⟩, h⟩
  go_wp2_with fail
  go_end0
  exact ⟨⟨_, rfl⟩, h⟩
end Go.Proofs.Ythmaobmgogmaoaa
