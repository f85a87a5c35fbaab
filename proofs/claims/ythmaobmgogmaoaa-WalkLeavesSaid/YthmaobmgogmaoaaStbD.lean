/-
  Star-trees: of how many rows a node is.
-/
import Derived.Test.YthmaobmgogmaoaaStbB
import Derived.Test.YthmaobmgogmaoaaStbC
namespace Go.Proofs.Ythmaobmgogmaoaa
open Go.RowKit Go.Shelf
set_option linter.unusedSimpArgs false
set_option linter.unusedVariables false
set_option maxRecDepth 100000

theorem kdNs (w : World) (n : Nat) : Kp [] w (w.drewN n) := ⟨rfl, rfl, rfl, Nat.le_refl _, fun _ _ _ => rfl⟩
theorem seg_snoc {R : List PR} {p i : Nat} {x : PR} (hp : p ≤ i) (h : R[i]? = some x) : seg R p (i + 1) = seg R p i ++ [x] := by
  obtain ⟨hi, rfl⟩ := List.getElem?_eq_some_iff.1 h
  rw [seg_split R hp (show i ≤ i + 1 by omega) hi]
  congr 1
  unfold seg
  rw [List.drop_take, show i + 1 - i = 1 by omega, List.drop_eq_getElem_cons hi, List.take_succ_cons, List.take_zero]
theorem seg_nil (R : List PR) (p : Nat) : seg R p p = [] := by
  unfold seg
  rw [List.drop_take, Nat.sub_self]; rfl
theorem ListOk.pre {k d : Nat} {R : List PR} {p q i : Nat} (h : ListOk k d (seg R p q)) (h1 : p ≤ i) (h2 : i ≤ q) (h3 : q ≤ R.length) : 0 ≤ csum (seg R p i) ∧ csum (seg R p i) ≤ 80 := by
  have h4 := h.sub (Nat.le_refl _) h1 h2 h3
  have h5 := csum_nonneg (fun x hx => (h4.1 x hx).2.2)
  exact ⟨by omega, h4.2⟩
set_option maxHeartbeats 1600000 in
theorem rows19_any {T k mt leaf B : Nat} {X : Nat → Prop} {ra : Option Addr} {rc : Nat} {RL : List Rc} {na : Option Addr} {nc : Nat} {NL : List Nh} (w : World) (h : TreeH T k mt leaf B X ra rc RL na nc NL w) (hk : 1 ≤ k) (hk8 : k ≤ 8) (hmt : mt ≤ 1000)
    (yd yf yt : Nat) (yka : Option Addr) (ykn ykc : Nat) (hft : yf ≤ yt) (htl : yt ≤ RL.length) (htb : yt ≤ 100000) (hok : ListOk k yd (seg (RL.map (pr k)) yf yt)) :
    Calls Try.prog 18 #[.pointer (some ⟨T, 0, none⟩), .agg #[.int .i64 (yd : Int), .int .i64 (yf : Int), .int .i64 (yt : Int), .slice yka ykn ykc]] w fun e w' => e = .returned (.int .i64 (csum (seg (RL.map (pr k)) yf yt))) ∧ Kp [] w w' := by
  obtain ⟨R, hR⟩ : ∃ R, R = RL.map (pr k) := ⟨_, rfl⟩
  rw [← hR] at hok ⊢
  have HRL : Hid (yt ≤ R.length) := Lib.hid (by rw [hR, List.length_map]; exact htl)
  have HR := Lib.hid hR
  have H := Lib.hid h
  have HOK := Lib.hid hok
  clear h hR hok htl
  go_enter Try.func18, Try.ntmps18
  go_upto_region 2 with (fail)
  obtain ⟨p, hp⟩ : ∃ p, p = w.heap.size := ⟨_, rfl⟩
  obtain ⟨w1, hw1⟩ : ∃ w1, w1 = w.alloc (Obj.cells #[.int .i64 (yd : Int), .int .i64 (yf : Int), .int .i64 (yt : Int), .slice yka ykn ykc] 40) := ⟨_, rfl⟩
  have k1 : Kp [] w w1 := by rw [hw1]; exact (Kp.refl [] w).alloc _
  have hp1 : w1.heap[p]? = some (.cells #[.int .i64 (yd : Int), .int .i64 (yf : Int), .int .i64 (yt : Int), .slice yka ykn ykc] 40) := by rw [hw1]; exact heap_alloc_at hp
  rw [← hw1, ← hp]
  have HP := Lib.hid hp1
  have K1 := Lib.hid k1
  have c1 : w1.cell? ⟨p, 1, none⟩ = some (.int .i64 (yf : Int)) := by rw [cell_of_row w1 p 1 _ _ _ hp1]; rfl
  clear hw1 hp1 k1 hp
  go_wp2_with fail
  go_loopw [5, 6] (fun vs vi wr => ∃ i : Nat, yf ≤ i ∧ i ≤ yt ∧ vi = .int .i64 i ∧ vs = .int .i64 (csum (seg R yf i)) ∧ Hid (Kp [] w1 wr)) (fun _ vi _ => yt - (intOf vi).toNat)
  case atStart => exact ⟨yf, Nat.le_refl _, hft, rfl, by rw [seg_nil]; rfl, Lib.hid (Kp.refl _ _)⟩
  case round =>
    obtain ⟨i, hi1, hi2, rfl, rfl, HK⟩ := hrel
    obtain ⟨wo, rfl⟩ : ∃ wo : World, wo = wr := ⟨_, rfl⟩
    obtain ⟨cs, hcs⟩ : ∃ cs, cs = csum (seg R yf i) := ⟨_, rfl⟩
    rw [← hcs]
    have hcsb : 0 ≤ cs ∧ cs ≤ 80 := by rw [hcs]; exact HOK.out.pre hi1 hi2 HRL.out
    have HCS := Lib.hid hcs
    have c2 : wo.cell? ⟨p, 2, none⟩ = some (.int .i64 (yt : Int)) := by rw [cell_of_row wo p 2 _ _ _ (HK.out.get HP.out (by simp))]; rfl
    clear hcs c1
    by_cases hlt : i < yt
    · obtain ⟨r, hr⟩ : ∃ r, R[i]? = some r := ⟨_, List.getElem?_eq_getElem (by have := HRL.out; omega)⟩
      have HNX : Hid (csum (seg R yf (i + 1)) = cs + r.cnt) := Lib.hid (by rw [seg_snoc hi1 hr, csum_append, ← HCS.out]; simp [csum])
      have hcn := HOK.out.pre (i := i + 1) (by omega) hlt HRL.out
      rw [HNX.out] at hcn
      have HRC := Lib.hid (stRecord_at wo (H.out.keep0 (K1.out.tr HK.out)) hk hk8 hmt i (by rw [← HR.out]; exact hr))
      clear hr
      go_wp2_with fail
      refine HRC.out.mono ?_
      rintro e w11 ⟨x, rfl, hx, hox, kpw11⟩
      unfold raV
      go_upto_region 6 with (refine wpList_store_row rfl 34 _ _ rfl w11.heap.size #[.slice x.ia x.ids.length x.ic, .int .i64 x.cnt, .slice x.sa x.ms.length x.sc, .slice x.la x.ms.length x.lc, .slice x.ga x.ms.length x.gc] rfl rfl 34 _ (heap_alloc_at rfl) (by kernel_rfl) rfl (by simp [Value.oneCell']) ?_)
      obtain ⟨q, hq⟩ : ∃ q, q = w11.heap.size := ⟨_, rfl⟩
      generalize hz : (w11.alloc (Obj.cells _ _)).setRow _ _ = w12
      rw [← hq] at hz ⊢
      have hrp : w12.heap[q]? = some (.cells #[.slice x.ia x.ids.length x.ic, .int .i64 x.cnt, .slice x.sa x.ms.length x.sc, .slice x.la x.ms.length x.lc, .slice x.ga x.ms.length x.gc] 34) := by rw [← hz]; exact setRow_heap _ q _ _ _ _ (heap_alloc_at hq)
      have kp : Kp [] w11 w12 := by rw [← hz]; exact ((Kp.refl [] w11).alloc _).setRowF _ _ (.inr (by omega))
      have e2 : x.cnt = r.cnt := by rw [← hx]; rfl
      have p1 : w12.cell? ⟨q, 1, none⟩ = some (.int .i64 r.cnt) := by rw [← e2, cell_of_row w12 q 1 _ _ _ hrp]; rfl
      obtain ⟨cnt, hcnt⟩ : ∃ cnt, cnt = r.cnt := ⟨_, rfl⟩
      rw [← hcnt] at p1 hcn HNX
      have HKN := Lib.hid ((HK.out.tr kpw11).tr kp)
      clear hz hrp kp kpw11 hx hox e2 hcnt hq HRC c2
      go_wp2_with fail
      go_roundw
      case rel => exact ⟨i + 1, by omega, hlt, by go_num, by rw [HNX.out], HKN⟩
      case measure => simp [intOf]; omega
    · obtain rfl : i = yt := by omega
      go_wp2_with fail
      go_ret
      exact ⟨by rw [HCS.out]; rfl, K1.out.tr HK.out⟩
end Go.Proofs.Ythmaobmgogmaoaa
