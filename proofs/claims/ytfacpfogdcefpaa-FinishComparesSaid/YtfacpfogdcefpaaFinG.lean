/-
  Finishing: the law of comparing.
-/
import Derived.Test.YtfacpfogdcefpaaFinF
import Derived.Test.YtfacpfogdcefpaaCols
namespace Go.Proofs.Ytfacpfogdcefpaa
open Go.RowKit Go.Shelf
set_option linter.unusedSimpArgs false
set_option linter.unusedVariables false
set_option maxRecDepth 100000

section
open Go.Deep Go.Joins Go.ChangeShapes Go.WideShapes
variable {H : Type} {enc : TypeId × Value → H} {w : World} {base : Nat} {spare : Nat → Bool} {held : Bool}
def Ky.wf (x : Ky) : Prop := (Lit.int .i64 x.out).wf = true
theorem open_key {n : Nat} {cs : List Value} {y : DataW H × List MemPlace} (hl : cs.length = 2) (h : DataW.trod enc Try.prog w base spare held n 56 cs = some y) : ∃ x : Ky, cs = kcells x ∧ x.wf := by
  obtain ⟨y0, y1, m, rfl, -, g0, g1⟩ := trod_struct2 Try.underlying56 h
  match cs, hl with
  | [c0, c1], _ =>
    have e0 : Try.prog.cellsOf 3 = 1 := by kernel_rfl
    have e1 : Try.prog.cellsOf 4 = 1 := by kernel_rfl
    simp only [e0, e1] at g0 g1
    obtain ⟨x0, q0, -, b0⟩ := DataW.trod_int Try.underlying3 g0
    obtain ⟨x1, q1, -⟩ := DataW.trod_bool Try.underlying4 g1
    simp at q0 q1
    subst q0 q1
    exact ⟨⟨x0, x1⟩, rfl, b0⟩
theorem open_keys {ad : Option Addr} {len cap fuel : Nat} {x : DataW H × List MemPlace} (h : DataW.trod enc Try.prog w base spare held fuel 45 [.slice ad len cap] = some x) :
    ∃ l : List Ky, l.length = len ∧ RdK w ad cap l ∧ ∀ v ∈ l, v.wf :=
  open_rows kcells 2 Ky.wf Try.underlying45 (by kernel_rfl) (by omega) klies.len (fun n cs y hl hy => open_key hl hy) h
end

theorem cmpW_nat (n : Nat) (q : Int) (qn : Nat) (h : qn = q.toNat) (ks : List Ky) (a b : List V3) : cmpW n (qn : Int) ks a b = cmpW n q ks a b := by
  unfold cmpW; rw [Int.toNat_natCast, h]
def mayRs (l : List V3) (k : Nat) : Prop := ∀ j, j < k → mayV (atV l j).k (atV l j).n (atV l j).s = true
theorem mayRs_size {l : List V3} {n : Nat} (hn : n = l.length) (h : mayRs l n) : ∀ x ∈ l, x.s.size ≤ 1000000 := fun x hx => by
  obtain ⟨j, hj, rfl⟩ := List.getElem_of_mem hx
  have := h j (by omega)
  rw [atV_eq l j hj] at this
  exact mayV_size this
theorem index_two (x y : Value) (i : Nat) (hx : Try.prog.cellsOf 36 = 1) (wx : World) : (i = 0 → (Instr.index 46 (.agg #[x, y]) (.int .i64 (i : Int))).run Try.prog wx = .ok x wx) ∧ (i = 1 → (Instr.index 46 (.agg #[x, y]) (.int .i64 (i : Int))).run Try.prog wx = .ok y wx) := by
  constructor
  · rintro rfl
    simp [Instr.index, go_sem]
  · rintro rfl
    simp [Instr.index, go_sem]

set_option maxHeartbeats 3200000 in
theorem finishCompares_any (a0 : Option Addr) (c0 n : Nat) (a : List V3) (hn : n = a.length) (b0 : Option Addr) (c1 m : Nat) (b : List V3) (hm : m = b.length) (q : Int) (k0 : Option Addr) (c2 kn : Nat) (ks : List Ky) (hk : kn = ks.length) (w : World) (ha : RdV w a0 c0 a) (hb : RdV w b0 c1 b) (hks : RdK w k0 c2 ks) :
    Calls Try.prog 7 #[.slice a0 n c0, .slice b0 m c1, .int .i64 q, .slice k0 kn c2] w fun e w' => e = .returned (.bool true) ∧ Kp [] w w' := by
  have HA := Lib.hid ha
  have HB := Lib.hid hb
  have HN := Lib.hid hn
  have HM := Lib.hid hm
  have HK := Lib.hid hk
  have HKS := Lib.hid hks
  clear ha hb hn hm hk hks
  go_enter Try.func7, Try.ntmps7
  by_cases h1 : (20 : Int) < (n : Int)
  · go_wp2_with fail
    refine (known27_any w).mono ?_
    rintro e w2 ⟨rfl, kp⟩
    go_wp2_with fail
    go_ret
    exact ⟨rfl, kp⟩
  · by_cases h2 : (20 : Int) < (m : Int)
    · go_wp2_with fail
      refine (known27_any w).mono ?_
      rintro e w2 ⟨rfl, kp⟩
      go_wp2_with fail
      go_ret
      exact ⟨rfl, kp⟩
    · by_cases h3 : (20 : Int) < (kn : Int)
      · go_wp2_with fail
        refine (known27_any w).mono ?_
        rintro e w2 ⟨rfl, kp⟩
        go_wp2_with fail
        go_ret
        exact ⟨rfl, kp⟩
      · go_wp2_with fail
        go_loopw [30] (fun vi wr => ∃ i : Nat, i ≤ 2 ∧ vi = .int .i64 i ∧ Hid ((0 < i → mayRs a n) ∧ (1 < i → mayRs b m)) ∧ Hid (Kp [] w wr)) (fun vi _ => 2 - (intOf vi).toNat)
        case atStart => exact ⟨0, Nat.zero_le _, rfl, Lib.hid ⟨fun h => by omega, fun h => by omega⟩, Lib.hid (Kp.refl _ _)⟩
        case round =>
          obtain ⟨i, hi, rfl, HX, HKW⟩ := hrel
          obtain ⟨wo, rfl⟩ : ∃ wo : World, wo = wr := ⟨_, rfl⟩
          by_cases hi0 : i < 2
          · obtain ⟨ad, k, c, l, hix, hL, hLN, hk20, hNX⟩ : ∃ ad k c, ∃ l : List V3, (∀ wx, (Instr.index 46 (.agg #[.slice a0 n c0, .slice b0 m c1]) (.int .i64 (i : Int))).run Try.prog wx = .ok (.slice ad k c) wx) ∧ RdV w ad c l ∧ k = l.length ∧ k ≤ 20 ∧ (mayRs l k → (0 < i + 1 → mayRs a n) ∧ (1 < i + 1 → mayRs b m)) := by
              by_cases hz : i = 0
              · exact ⟨a0, n, c0, a, fun wx => (index_two _ _ i (by kernel_rfl) wx).1 hz, HA.out, HN.out, by omega, fun h => ⟨fun _ => h, fun h2 => by omega⟩⟩
              · exact ⟨b0, m, c1, b, fun wx => (index_two _ _ i (by kernel_rfl) wx).2 (by omega), HB.out, HM.out, by omega, fun h => ⟨fun _ => HX.out.1 (by omega), fun _ => h⟩⟩
            have HL := Lib.hid hL
            have HLN := Lib.hid hLN
            have HNX := Lib.hid hNX
            clear hL hLN hNX HX
            have hdi : decide ((i : Int) < 2) = true := by simp; omega
            go_wp2_with fail
            go_loopw [35] (fun vj wr => ∃ j : Nat, j ≤ k ∧ vj = .int .i64 j ∧ Hid (mayRs l j) ∧ Hid (Kp [] wo wr)) (fun vj _ => k - (intOf vj).toNat)
            case atStart => exact ⟨0, Nat.zero_le _, rfl, Lib.hid (fun j h => by omega), Lib.hid (Kp.refl _ _)⟩
            case round =>
              obtain ⟨j, hj, rfl, HY, HKI⟩ := hrel
              obtain ⟨wi, rfl⟩ : ∃ wi : World, wi = wr := ⟨_, rfl⟩
              by_cases hlt : j < k
              · obtain ⟨b1, off1, rfl, hx⟩ := vals_at (RdV.keep0 HL.out (HKW.out.tr HKI.out)) (s := j) (by rw [← HLN.out]; exact hlt)
                obtain ⟨d0, d1, d2⟩ := hx wi (Kp.refl _ _)
                have HST : Hid (mayV (atV l j).k (atV l j).n (atV l j).s = true → mayRs l (j + 1)) := Lib.hid (fun h t ht => by
                  by_cases e : t = j
                  · rw [e]; exact h
                  · exact HY.out t (by omega))
                generalize atV l j = vl at *
                obtain ⟨kk, nn, ss⟩ := vl
                dsimp only at d0 d1 d2 HST
                clear hx
                go_wp2_with fail
                refine (r10May_any kk nn ss _).mono ?_
                rintro e w7 ⟨rfl, kp7⟩
                cases hmv : mayV kk nn ss
                · go_wp2_with fail
                  refine (known27_any _).mono ?_
                  rintro e w8 ⟨rfl, kp8⟩
                  go_wp2_with fail
                  go_ret
                  exact ⟨rfl, ((HKW.out.tr HKI.out).tr kp7).tr kp8⟩
                · have HY2 := Lib.hid (HST.out hmv)
                  go_wp2_with fail
                  go_roundw
                  case rel => exact ⟨j + 1, hlt, by go_num, HY2, Lib.hid (HKI.out.tr kp7)⟩
                  case measure => simp [intOf]; omega
              · obtain rfl : j = k := by omega
                have HX2 := Lib.hid (HNX.out HY.out)
                go_wp2_with fail
                go_roundw
                case rel => exact ⟨i + 1, hi0, by go_num, HX2, Lib.hid (HKW.out.tr HKI.out)⟩
                case measure => simp [intOf]; omega
          · obtain rfl : i = 2 := by omega
            have SA := Lib.hid (mayRs_size HN.out (HX.out.1 (by omega)))
            have SB := Lib.hid (mayRs_size HM.out (HX.out.2 (by omega)))
            clear HX
            obtain ⟨v, hv⟩ : ∃ v, v = cmpW (min n m) q ks a b := ⟨_, rfl⟩
            obtain ⟨qn, hqn⟩ : ∃ qn : Nat, qn = q.toNat := ⟨_, rfl⟩
            have hmax := max_zero q qn hqn
            have hv1 : -1 ≤ v ∧ v ≤ 1 := by rw [hv]; exact (cmpW_anti _ _ _ _ _).2
            have hwn : IntKind.i64.wrap (-v) = -v := IntWalk.i64_in _ (by omega)
            have F1 : Hid (∀ W, Kp [] w W → Calls Try.prog 24 #[.slice a0 n c0, .slice b0 m c1, .int .i64 q, .slice k0 kn c2] W fun e w' => e = .returned (.int .i64 v) ∧ Kp [] W w') := Lib.hid (fun W k => by
              rw [hv]; exact fiCompare_any a0 c0 n a HN.out b0 c1 m b HM.out q k0 c2 kn ks HK.out W (RdV.keep0 HA.out k) (RdV.keep0 HB.out k) (RdK.keep0 HKS.out k))
            have F2 : Hid (∀ W, Kp [] w W → Calls Try.prog 24 #[.slice b0 m c1, .slice a0 n c0, .int .i64 q, .slice k0 kn c2] W fun e w' => e = .returned (.int .i64 (-v)) ∧ Kp [] W w') := Lib.hid (fun W k => by
              have := fiCompare_any b0 c1 m b HM.out a0 c0 n a HN.out q k0 c2 kn ks HK.out W (RdV.keep0 HB.out k) (RdV.keep0 HA.out k) (RdK.keep0 HKS.out k)
              rw [Nat.min_comm, (cmpW_anti (min n m) q ks a b).1, ← hv] at this
              exact this)
            have F3 : Hid (∀ W, Kp [] w W → Calls Try.prog 24 #[.slice a0 n c0, .slice a0 n c0, .int .i64 q, .slice k0 kn c2] W fun e w' => e = .returned (.int .i64 0) ∧ Kp [] W w') := Lib.hid (fun W k => by
              have := fiCompare_any a0 c0 n a HN.out a0 c0 n a HN.out q k0 c2 kn ks HK.out W (RdV.keep0 HA.out k) (RdV.keep0 HA.out k) (RdK.keep0 HKS.out k)
              rw [cmpW_self] at this
              exact this)
            have F4 : Hid (∀ W, Kp [] w W → Calls Try.prog 25 #[.slice a0 n c0, .slice b0 m c1, .int .i64 (qn : Int), .slice k0 kn c2] W fun e w' => e = .returned (.int .i64 v) ∧ Kp [] W w') := Lib.hid (fun W k => by
              have := r27Compare_any a0 c0 n a HN.out b0 c1 m b HM.out qn k0 c2 kn ks HK.out W (RdV.keep0 HA.out k) (RdV.keep0 HB.out k) (RdK.keep0 HKS.out k) SA.out SB.out
              rw [cmpW_nat _ q _ hqn, ← hv] at this
              exact this)
            clear hv hqn hv1
            go_wp2_with fail
            refine (F1.out wo HKW.out).mono ?_
            rintro e w4 ⟨rfl, kp4⟩
            have K4 := Lib.hid (HKW.out.tr kp4)
            clear kp4
            go_wp2_with fail
            refine (F4.out w4 K4.out).mono ?_
            rintro e w5 ⟨rfl, kp5⟩
            have K5 := Lib.hid (K4.out.tr kp5)
            clear kp5
            go_wp2_with fail
            refine (F2.out w5 K5.out).mono ?_
            rintro e w6 ⟨rfl, kp6⟩
            have K6 := Lib.hid (K5.out.tr kp6)
            clear kp6
            go_wp2_with fail
            refine (F3.out w6 K6.out).mono ?_
            rintro e w7 ⟨rfl, kp7⟩
            have K7 := Lib.hid (K6.out.tr kp7)
            clear kp7
            go_wp2_with fail
            refine (known27_any w7).mono ?_
            rintro e w8 ⟨rfl, kp8⟩
            go_wp2_with fail
            go_ret
            exact ⟨rfl, K7.out.tr kp8⟩
end Go.Proofs.Ytfacpfogdcefpaa
