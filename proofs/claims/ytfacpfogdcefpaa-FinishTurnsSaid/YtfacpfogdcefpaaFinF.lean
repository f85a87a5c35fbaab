/-
  Finishing: what is known.
-/
import Derived.Test.YtfacpfogdcefpaaFinE
namespace Go.Proofs.Ytfacpfogdcefpaa
open Go.RowKit Go.Shelf
set_option linter.unusedSimpArgs false
set_option linter.unusedVariables false
set_option maxRecDepth 100000

def kd27 : List Ky := [⟨1, true⟩]
def lt27 : List V3 → List V3 → Bool := fun x y => decide (cmpW 2 1 kd27 x y < 0)
def rA : List V3 := [iv 1, iv 5]
def rB : List V3 := [iv 2, iv 7]
def rC : List V3 := [iv 3, iv 5]
theorem swo27 : Swo lt27 := cmpW_swo 2 1 kd27
theorem st27a : Stab lt27 [rA, rB, rC] [rB, rA, rC] := by
  have s0 : Stab lt27 [] ([] ++ []) := Stab.nil
  have s1 := stab_put swo27 (x := rA) s0 (by simp) (by simp)
  have s2 := stab_put swo27 (L := []) (R := [rA]) (x := rB) s1 (by intro y hy; simp at hy; subst hy; decide +kernel) (by simp)
  exact stab_put swo27 (L := [rB, rA]) (R := []) (x := rC) s2 (by simp) (by intro y hy; simp at hy; rcases hy with rfl | rfl <;> decide +kernel)
theorem st27b : Stab lt27 [rA, rC] [rA, rC] := by
  have s0 : Stab lt27 [] ([] ++ []) := Stab.nil
  have s1 := stab_put swo27 (x := rA) s0 (by simp) (by simp)
  exact stab_put swo27 (L := [rA]) (R := []) (x := rC) s1 (by simp) (by intro y hy; simp at hy; subst hy; decide +kernel)
theorem fl27 : [rA, rB, rC].filter (fun r => decide (cV (atV r 1) (iv 6) < 0)) = [rA, rC] := by
  have a : decide (cV (atV rA 1) (iv 6) < 0) = true := by decide +kernel
  have b : decide (cV (atV rB 1) (iv 6) < 0) = false := by decide +kernel
  have c : decide (cV (atV rC 1) (iv 6) < 0) = true := by decide +kernel
  simp [List.filter_cons, a, b, c]

theorem rdInts {w : World} {g n : Nat} {t : TypeId} {l : List Int} (h : w.heap[g]? = some (.cells (ints .i64 l) t (0, 0))) (hn : n = l.length) (hl : l.length ≤ 1000000) : Rd w .i64 (some ⟨g, 0, none⟩) n l := by
  subst hn
  refine ⟨Nat.le_refl _, by omega, fun i hi => ⟨g, 0, rfl, ?_⟩⟩
  rw [cell_of_row w g _ _ _ _ h]
  simp [ints, nth, hi]
theorem row27_two (a b : Int) (w : World) : Calls Try.prog 48 #[.slice (some ⟨w.heap.size, 0, none⟩) 2 2] (w.alloc (.cells #[.int .i64 a, .int .i64 b] 2)) fun e w' => ∃ oa oc, e = .returned (.slice oa 2 oc) ∧ HdOk w' ⟨oa, 2, oc, [iv a, iv b]⟩ ∧ Kp [] w w' := by
  refine (row27_any (some ⟨w.heap.size, 0, none⟩) 2 2 [a, b] rfl (by omega) _ (rdInts (heap_alloc_at rfl) rfl (by simp))).mono ?_
  rintro e w' ⟨oa, oc, rfl, h1, h2⟩
  exact ⟨oa, oc, rfl, ⟨rfl, h1.rd vlies⟩, ((Kp.refl [] w).alloc _).tr h2⟩

theorem row27_one (a : Int) (w : World) : Calls Try.prog 48 #[.slice (some ⟨w.heap.size, 0, none⟩) 1 1] (w.alloc (.cells #[.int .i64 a] 2)) fun e w' => ∃ oa oc, e = .returned (.slice oa 1 oc) ∧ RdV w' oa oc [iv a] ∧ Kp [] w w' := by
  refine (row27_any (some ⟨w.heap.size, 0, none⟩) 1 1 [a] rfl (by omega) _ (rdInts (heap_alloc_at rfl) rfl (by simp))).mono ?_
  rintro e w' ⟨oa, oc, rfl, h1, h2⟩
  exact ⟨oa, oc, rfl, h1.rd vlies, ((Kp.refl [] w).alloc _).tr h2⟩
theorem rdK_block {w : World} {g n : Nat} {t : TypeId} {l : List Ky} (h : w.heap[g]? = some (.cells (l.flatMap kcells).toArray t (0, 0))) (hn : n = l.length) (hl : l.length ≤ 1000000) : RdK w (some ⟨g, 0, none⟩) n l := by
  subst hn
  refine ⟨Nat.le_refl _, by omega, fun i hi => ⟨g, 0, rfl, fun j hj => ?_⟩⟩
  rw [Nat.zero_add, cell_of_row w g _ _ _ _ h]
  have := flat_get klies.len l i j hi hj
  simpa using this
/-- A slice that reads as rows. -/
def SV.rows (n : Nat) (l : List Hd) : SV := ⟨fun v u => ∃ ad cap, v = .slice ad n cap ∧ RdR u ad cap l, fun _ _ _ ⟨ad, cap, h1, h2⟩ hk => ⟨ad, cap, h1, RdR.keep0 h2 hk⟩⟩

set_option maxHeartbeats 1600000 in
theorem known27_any (w : World) : Calls Try.prog 22 #[] w fun e w' => e = .returned (.bool true) ∧ Kp [] w w' := by
  go_enter Try.func22, Try.ntmps22
  go_wp2_with fail
  refine (row27_two 1 5 _).mono ?_
  rintro e w2 ⟨a1, c1, rfl, h1, kp1⟩
  have H1 := Lib.hid h1
  clear h1
  go_wp2_with fail
  refine (row27_two 2 7 _).mono ?_
  rintro e w3 ⟨a2, c2, rfl, h2, kp2⟩
  have H2 := Lib.hid h2
  clear h2
  go_wp2_with fail
  refine (row27_two 3 5 _).mono ?_
  rintro e w4 ⟨a3, c3, rfl, h3, kp3⟩
  have H3 := Lib.hid h3
  have K4 := Lib.hid ((kp1.tr kp2).tr kp3)
  have HH : Hid (∀ W, Kp [] w4 W → ∀ x ∈ [(⟨a1, 2, c1, rA⟩ : Hd), ⟨a2, 2, c2, rB⟩, ⟨a3, 2, c3, rC⟩], HdOk W x) := Lib.hid (fun W hW x hx => by
    simp at hx
    rcases hx with rfl | rfl | rfl
    · exact H1.out.keep0 ((kp2.tr kp3).tr hW)
    · exact H2.out.keep0 (kp3.tr hW)
    · exact H3.out.keep0 hW)
  clear h3 kp1 kp2 kp3 H1 H2 H3
  go_upto_region 3 with (fail)
  obtain ⟨g, hg⟩ : ∃ g, g = w4.heap.size := ⟨_, rfl⟩
  obtain ⟨w5, hw5⟩ : ∃ w5, w5 = (w4.alloc (Obj.cells #[Value.slice a1 2 c1, Value.slice a2 2 c2, Value.slice a3 2 c3] 36)).alloc (Obj.cells #[Value.int IntKind.i64 1, Value.bool true] 56) := ⟨_, rfl⟩
  have k5 : Kp [] w4 w5 := by rw [hw5]; exact ((Kp.refl [] w4).alloc _).alloc _
  have HRR : Hid (∀ W, Kp [] w5 W → RdR W (some ⟨g, 0, none⟩) 3 [(⟨a1, 2, c1, rA⟩ : Hd), ⟨a2, 2, c2, rB⟩, ⟨a3, 2, c3, rC⟩]) := Lib.hid (fun W hW => (rdR_block (t := 36) (by rw [hw5]; exact cells_alloc (heap_alloc_at hg)) rfl (HH.out w5 k5) (by simp)).keep0 hW)
  have HKY : Hid (∀ W, Kp [] w5 W → RdK W (some ⟨g + 1, 0, none⟩) 1 kd27) := Lib.hid (fun W hW => (rdK_block (l := kd27) (t := 56) (by rw [hw5]; exact heap_alloc_at (by simp [hg])) rfl (by decide)).keep0 hW)
  have K5 := Lib.hid (K4.out.tr k5)
  have HH5 : Hid (∀ W, Kp [] w5 W → ∀ x ∈ [(⟨a1, 2, c1, rA⟩ : Hd), ⟨a2, 2, c2, rB⟩, ⟨a3, 2, c3, rC⟩], HdOk W x) := Lib.hid (fun W hW => HH.out W (k5.tr hW))
  rw [← hg, ← hw5]
  clear hw5 hg k5 HH K4
  go_wp2_with fail
  refine (fiFinish_any (some ⟨g, 0, none⟩) 3 3 [(⟨a1, 2, c1, rA⟩ : Hd), ⟨a2, 2, c2, rB⟩, ⟨a3, 2, c3, rC⟩] rfl 1 ⟨0, 0, 0, ⟨0, 0, ⟨#[]⟩⟩⟩ (some ⟨g + 1, 0, none⟩) 1 1 kd27 rfl (-1) (fun _ => true) 2 w5 (HRR.out w5 (Kp.refl _ _)) (by omega) (HKY.out w5 (Kp.refl _ _)) (by intro x hx; simp at hx; rcases hx with rfl | rfl | rfl <;> rfl) (by omega) (fun x hx V hV => passes0_any _ _ _ _ _ _ _) (by simp)).mono ?_
  rintro e w6 ⟨kp6, oa, oc, k, R, S, rfl, hk, hR, hst, hmap⟩
  have hS : S = [rB, rA, rC] := Stab.uniq swo27 (l := [rA, rB, rC]) (by have h := hst; simp at h; exact h) st27a
  rw [hS] at hmap
  obtain rfl : k = 3 := by have := congrArg List.length hmap; simp at this; omega
  have HR1 := Lib.hid hR
  have HM1 : Hid (R.map (·.row) = [rB, rA, rC]) := Lib.hid (by simpa using hmap)
  have HL1 := Lib.hid hk
  have K6 := Lib.hid kp6
  clear hst hS hmap hR hk kp6
  go_wp2_with fail
  refine (row27_one 6 _).mono ?_
  rintro e w7 ⟨a4, c4, rfl, h4, kp7⟩
  obtain ⟨b4, off4, rfl, hv⟩ := vals_at h4 (s := 0) (by simp)
  obtain ⟨v0, v1, v2⟩ := hv w7 (Kp.refl _ _)
  have K7 := Lib.hid (K6.out.tr kp7)
  have K67 := Lib.hid kp7
  simp only [Nat.zero_mul, Nat.add_zero] at v0 v1 v2
  replace v0 : w7.cell? ⟨b4, off4, none⟩ = some (.int .u8 1) := v0
  replace v1 : w7.cell? ⟨b4, off4 + 1, none⟩ = some (.int .i64 6) := v1
  replace v2 : w7.cell? ⟨b4, off4 + 2, none⟩ = some (.string ⟨#[]⟩) := v2
  clear h4 hv kp7
  go_wp2_with fail
  refine (fiFinish_any (some ⟨g, 0, none⟩) 3 3 [(⟨a1, 2, c1, rA⟩ : Hd), ⟨a2, 2, c2, rB⟩, ⟨a3, 2, c3, rC⟩] rfl 1 ⟨4, ((1 : Nat) : Int), 3, iv 6⟩ (some ⟨g + 1, 0, none⟩) 1 1 kd27 rfl 2 (fun r => decide (cV (atV r 1) (iv 6) < 0)) 2 w7 (HRR.out w7 K7.out) (by omega) (HKY.out w7 K7.out) (by intro x hx; simp at hx; rcases hx with rfl | rfl | rfl <;> rfl) (by omega) (fun x hx V hV => passes4_any 1 (iv 6) x.ad x.n x.cap x.row hV.1 (by simp at hx; rcases hx with rfl | rfl | rfl <;> simp) V hV.2) (by rw [show List.map (fun x : Hd => x.row) [(⟨a1, 2, c1, rA⟩ : Hd), ⟨a2, 2, c2, rB⟩, ⟨a3, 2, c3, rC⟩] = [rA, rB, rC] from rfl, fl27]; simp)).mono ?_
  rintro e w8 ⟨kp8, oa2, oc2, k2, R2, S2, rfl, hk2, hR2, hst2, hmap2⟩
  rw [show List.map (fun x : Hd => x.row) [(⟨a1, 2, c1, rA⟩ : Hd), ⟨a2, 2, c2, rB⟩, ⟨a3, 2, c3, rC⟩] = [rA, rB, rC] from rfl, fl27] at hst2
  have hS2 : S2 = [rA, rC] := Stab.uniq swo27 (l := [rA, rC]) hst2 st27b
  rw [hS2] at hmap2
  obtain rfl : k2 = 2 := by have := congrArg List.length hmap2; simp at this; omega
  have HR2 := Lib.hid hR2
  have HM2 : Hid (R2.map (·.row) = [rA, rC]) := Lib.hid (by simpa using hmap2)
  have HL2 := Lib.hid hk2
  have K8 := Lib.hid (K7.out.tr kp8)
  have K68 := Lib.hid (K67.out.tr kp8)
  clear hst2 hS2 hmap2 hR2 hk2 kp8 v0 v1 v2
  go_upto_region 5 with (fail)
  have C0 : Hid (∀ W, Kp [] w8 W → W.cell? ⟨g, 0, none⟩ = some (.slice a1 2 c1) ∧ W.cell? ⟨g, 1, none⟩ = some (.slice a2 2 c2) ∧ W.cell? ⟨g, 2, none⟩ = some (.slice a3 2 c3)) := Lib.hid (fun W hW => by
    have h := HRR.out W (K8.out.tr hW)
    obtain ⟨_, _, q1, p1⟩ := RdS.at1 h.1 0 (by simp)
    obtain ⟨_, _, q2, p2⟩ := RdS.at1 h.1 1 (by simp)
    obtain ⟨_, _, q3, p3⟩ := RdS.at1 h.1 2 (by simp)
    cases q1; cases q2; cases q3
    exact ⟨by simpa using p1, by simpa using p2, by simpa using p3⟩)
  have HH8 : Hid (∀ W, Kp [] w8 W → ∀ x ∈ [(⟨a1, 2, c1, rA⟩ : Hd), ⟨a2, 2, c2, rB⟩, ⟨a3, 2, c3, rC⟩], HdOk W x) := Lib.hid (fun W hW => HH5.out W (K8.out.tr hW))
  have S1 : Hid (∀ W ad cap, Kp [] w8 W → RdR W ad cap [(⟨a2, 2, c2, rB⟩ : Hd), ⟨a1, 2, c1, rA⟩, ⟨a3, 2, c3, rC⟩] → Calls Try.prog 28 #[.slice oa 3 oc, .slice ad 3 cap] W fun e w' => e = .returned (.bool true) ∧ Kp [] W w') := Lib.hid (fun W ad cap hW hr => by
    have := r27Same_any oa oc 3 R HL1.out ad cap 3 _ rfl W (HR1.out.keep0 (K68.out.tr hW)) hr
    rwa [sameR_iff.2 (by rw [HM1.out]; rfl)] at this)
  have S2 : Hid (∀ W ad cap, Kp [] w8 W → RdR W ad cap [(⟨a1, 2, c1, rA⟩ : Hd), ⟨a3, 2, c3, rC⟩] → Calls Try.prog 28 #[.slice oa2 2 oc2, .slice ad 2 cap] W fun e w' => e = .returned (.bool true) ∧ Kp [] W w') := Lib.hid (fun W ad cap hW hr => by
    have := r27Same_any oa2 oc2 2 R2 HL2.out ad cap 2 _ rfl W (HR2.out.keep0 hW) hr
    rwa [sameR_iff.2 (by rw [HM2.out]; rfl)] at this)
  refine wp_region_K (by kernel_rfl) [.val (.slice oa 3 oc), .val (.slice (some ⟨g, 0, none⟩) 3 3), .val (.pointer (some ⟨g, 1, none⟩)), .val (.slice a2 2 c2), .val (.slice (some ⟨g, 0, none⟩) 3 3), .val (.pointer (some ⟨g, 0, none⟩)), .val (.slice a1 2 c1), .val (.slice (some ⟨g, 0, none⟩) 3 3), .val (.pointer (some ⟨g, 2, none⟩)), .val (.slice a3 2 c3), .rows 3 [(⟨a2, 2, c2, rB⟩ : Hd), ⟨a1, 2, c1, rA⟩, ⟨a3, 2, c3, rC⟩], .val (.bool true), .val (.bool true), .val (.slice oa2 2 oc2), .val (.slice (some ⟨g, 0, none⟩) 3 3), .val (.pointer (some ⟨g, 0, none⟩)), .val (.slice a1 2 c1), .val (.slice (some ⟨g, 0, none⟩) 3 3), .val (.pointer (some ⟨g, 2, none⟩)), .val (.slice a3 2 c3), .rows 2 [(⟨a1, 2, c1, rA⟩ : Hd), ⟨a3, 2, c3, rC⟩], .val (.bool true), .val (.bool true), .val (.bool true)] [[(3, none)], [(1, none)], [(27, some 1)], [(28, some 2)], [(1, none)], [(30, some 4)], [(31, some 5)], [(1, none)], [(33, some 7)], [(34, some 8)], [(29, some 3), (32, some 6), (35, some 9)], [(26, some 0), (36, some 10)], [(37, some 11)], [(38, some 12), (4, none)], [(38, some 12), (1, none)], [(38, some 12), (40, some 14)], [(38, some 12), (41, some 15)], [(38, some 12), (1, none)], [(38, some 12), (43, some 17)], [(38, some 12), (44, some 18)], [(38, some 12), (42, some 16), (45, some 19)], [(38, some 12), (39, some 13), (46, some 20)], [(38, some 12), (47, some 21)], [(48, some 22)]] rfl (by kernel_rfl) ?_ ?_
  · refine ⟨?o0, ?o1, ?o2, ?o3, ?o4, ?o5, ?o6, ?o7, ?o8, ?o9, ?o10, ?o11, ?o12, ?o13, ?o14, ?o15, ?o16, ?o17, ?o18, ?o19, ?o20, ?o21, ?o22, ?o23, trivial⟩
    case o0 => intro aR wR hR; replace hR := hR.undrew; intro (h3 : aR.tmps[3]? = some (.slice oa 3 oc)); exact exec_val (c := .slice oa 3 oc) (wanted_none rfl) (by go_simp) rfl
    case o1 => intro aR wR hR; replace hR := hR.undrew; intro (h1 : aR.tmps[1]? = some (.slice (some ⟨g, 0, none⟩) 3 3)); exact exec_val (c := .slice (some ⟨g, 0, none⟩) 3 3) (wanted_none rfl) (by go_simp) rfl
    case o2 => intro aR wR hR; replace hR := hR.undrew; intro v27 h27 e27; replace e27 : v27 = .slice (some ⟨g, 0, none⟩) 3 3 := e27; subst e27; exact exec_val (c := .pointer (some ⟨g, 1, none⟩)) (wanted_none rfl) (by go_simp) rfl
    case o3 => intro aR wR hR; replace hR := hR.undrew; intro v28 h28 e28; replace e28 : v28 = .pointer (some ⟨g, 1, none⟩) := e28; subst e28; (obtain ⟨h1, h2, h3⟩ := C0.out wR hR); exact exec_val (c := .slice a2 2 c2) (wanted_none rfl) (by go_simp) rfl
    case o4 => intro aR wR hR; replace hR := hR.undrew; intro (h1 : aR.tmps[1]? = some (.slice (some ⟨g, 0, none⟩) 3 3)); exact exec_val (c := .slice (some ⟨g, 0, none⟩) 3 3) (wanted_none rfl) (by go_simp) rfl
    case o5 => intro aR wR hR; replace hR := hR.undrew; intro v30 h30 e30; replace e30 : v30 = .slice (some ⟨g, 0, none⟩) 3 3 := e30; subst e30; exact exec_val (c := .pointer (some ⟨g, 0, none⟩)) (wanted_none rfl) (by go_simp) rfl
    case o6 => intro aR wR hR; replace hR := hR.undrew; intro v31 h31 e31; replace e31 : v31 = .pointer (some ⟨g, 0, none⟩) := e31; subst e31; (obtain ⟨h1, h2, h3⟩ := C0.out wR hR); exact exec_val (c := .slice a1 2 c1) (wanted_none rfl) (by go_simp) rfl
    case o7 => intro aR wR hR; replace hR := hR.undrew; intro (h1 : aR.tmps[1]? = some (.slice (some ⟨g, 0, none⟩) 3 3)); exact exec_val (c := .slice (some ⟨g, 0, none⟩) 3 3) (wanted_none rfl) (by go_simp) rfl
    case o8 => intro aR wR hR; replace hR := hR.undrew; intro v33 h33 e33; replace e33 : v33 = .slice (some ⟨g, 0, none⟩) 3 3 := e33; subst e33; exact exec_val (c := .pointer (some ⟨g, 2, none⟩)) (wanted_none rfl) (by go_simp) rfl
    case o9 => intro aR wR hR; replace hR := hR.undrew; intro v34 h34 e34; replace e34 : v34 = .pointer (some ⟨g, 2, none⟩) := e34; subst e34; (obtain ⟨h1, h2, h3⟩ := C0.out wR hR); exact exec_val (c := .slice a3 2 c3) (wanted_none rfl) (by go_simp) rfl
    case o10 => intro aR wR hR; replace hR := hR.undrew; intro v29 h29 e29; replace e29 : v29 = .slice a2 2 c2 := e29; subst e29; intro v32 h32 e32; replace e32 : v32 = .slice a1 2 c1 := e32; subst e32; intro v35 h35 e35; replace e35 : v35 = .slice a3 2 c3 := e35; subst e35; exact exec_do (c := .slice (some ⟨wR.heap.size, 0, none⟩) 3 3) (w' := wR.alloc (.cells #[.slice a2 2 c2, .slice a1 2 c1, .slice a3 2 c3] 36)) (wanted_none rfl) (by go_simp) ⟨_, _, rfl, rdR_block (t := 36) (heap_alloc_at rfl) rfl (fun x hx => (HH8.out _ (hR.alloc _) x (by simp at hx ⊢; rcases hx with rfl | rfl | rfl <;> simp))) (by simp)⟩ ((Kp.refl [] _).alloc _)
    case o11 => intro aR wR hR; replace hR := hR.undrew; intro v26 h26 e26; replace e26 : v26 = .slice oa 3 oc := e26; subst e26; intro v36 h36 e36; refine exec_call (wanted_none rfl) (by go_simp; exact ⟨rfl, rfl⟩) ?_; obtain ⟨ad, cap, rfl, ho5⟩ := e36; refine (S1.out wR ad cap hR ho5).mono ?_; rintro e7 w8 ⟨rfl, kp8⟩; exact ⟨_, rfl, rfl, kp8⟩
    case o12 => intro aR wR hR; replace hR := hR.undrew; intro v37 h37 e37; replace e37 : v37 = .bool true := e37; subst e37; exact exec_val (c := .bool true) (wanted_none rfl) (by go_simp) rfl
    case o13 => intro aR wR hR; replace hR := hR.undrew; intro v38 h38 e38; replace e38 : v38 = .bool true := e38; subst e38; intro (h4 : aR.tmps[4]? = some (.slice oa2 2 oc2)); exact exec_val (c := .slice oa2 2 oc2) (wanted_yes (b := true) (t := 38) rfl rfl h38) (by go_simp) rfl
    case o14 => intro aR wR hR; replace hR := hR.undrew; intro v38 h38 e38; replace e38 : v38 = .bool true := e38; subst e38; intro (h1 : aR.tmps[1]? = some (.slice (some ⟨g, 0, none⟩) 3 3)); exact exec_val (c := .slice (some ⟨g, 0, none⟩) 3 3) (wanted_yes (b := true) (t := 38) rfl rfl h38) (by go_simp) rfl
    case o15 => intro aR wR hR; replace hR := hR.undrew; intro v38 h38 e38; replace e38 : v38 = .bool true := e38; subst e38; intro v40 h40 e40; replace e40 : v40 = .slice (some ⟨g, 0, none⟩) 3 3 := e40; subst e40; exact exec_val (c := .pointer (some ⟨g, 0, none⟩)) (wanted_yes (b := true) (t := 38) rfl rfl h38) (by go_simp) rfl
    case o16 => intro aR wR hR; replace hR := hR.undrew; intro v38 h38 e38; replace e38 : v38 = .bool true := e38; subst e38; intro v41 h41 e41; replace e41 : v41 = .pointer (some ⟨g, 0, none⟩) := e41; subst e41; (obtain ⟨h1, h2, h3⟩ := C0.out wR hR); exact exec_val (c := .slice a1 2 c1) (wanted_yes (b := true) (t := 38) rfl rfl h38) (by go_simp) rfl
    case o17 => intro aR wR hR; replace hR := hR.undrew; intro v38 h38 e38; replace e38 : v38 = .bool true := e38; subst e38; intro (h1 : aR.tmps[1]? = some (.slice (some ⟨g, 0, none⟩) 3 3)); exact exec_val (c := .slice (some ⟨g, 0, none⟩) 3 3) (wanted_yes (b := true) (t := 38) rfl rfl h38) (by go_simp) rfl
    case o18 => intro aR wR hR; replace hR := hR.undrew; intro v38 h38 e38; replace e38 : v38 = .bool true := e38; subst e38; intro v43 h43 e43; replace e43 : v43 = .slice (some ⟨g, 0, none⟩) 3 3 := e43; subst e43; exact exec_val (c := .pointer (some ⟨g, 2, none⟩)) (wanted_yes (b := true) (t := 38) rfl rfl h38) (by go_simp) rfl
    case o19 => intro aR wR hR; replace hR := hR.undrew; intro v38 h38 e38; replace e38 : v38 = .bool true := e38; subst e38; intro v44 h44 e44; replace e44 : v44 = .pointer (some ⟨g, 2, none⟩) := e44; subst e44; (obtain ⟨h1, h2, h3⟩ := C0.out wR hR); exact exec_val (c := .slice a3 2 c3) (wanted_yes (b := true) (t := 38) rfl rfl h38) (by go_simp) rfl
    case o20 => intro aR wR hR; replace hR := hR.undrew; intro v38 h38 e38; replace e38 : v38 = .bool true := e38; subst e38; intro v42 h42 e42; replace e42 : v42 = .slice a1 2 c1 := e42; subst e42; intro v45 h45 e45; replace e45 : v45 = .slice a3 2 c3 := e45; subst e45; exact exec_do (c := .slice (some ⟨wR.heap.size, 0, none⟩) 2 2) (w' := wR.alloc (.cells #[.slice a1 2 c1, .slice a3 2 c3] 36)) (wanted_yes (b := true) (t := 38) rfl rfl h38) (by go_simp) ⟨_, _, rfl, rdR_block (t := 36) (heap_alloc_at rfl) rfl (fun x hx => (HH8.out _ (hR.alloc _) x (by simp at hx ⊢; rcases hx with rfl | rfl <;> simp))) (by simp)⟩ ((Kp.refl [] _).alloc _)
    case o21 => intro aR wR hR; replace hR := hR.undrew; intro v38 h38 e38; replace e38 : v38 = .bool true := e38; subst e38; intro v39 h39 e39; replace e39 : v39 = .slice oa2 2 oc2 := e39; subst e39; intro v46 h46 e46; refine exec_call (wanted_yes (b := true) (t := 38) rfl rfl h38) (by go_simp; exact ⟨rfl, rfl⟩) ?_; obtain ⟨ad, cap, rfl, ho5⟩ := e46; refine (S2.out wR ad cap hR ho5).mono ?_; rintro e7 w8 ⟨rfl, kp8⟩; exact ⟨_, rfl, rfl, kp8⟩
    case o22 => intro aR wR hR; replace hR := hR.undrew; intro v38 h38 e38; replace e38 : v38 = .bool true := e38; subst e38; intro v47 h47 e47; replace e47 : v47 = .bool true := e47; subst e47; exact exec_val (c := .bool true) (wanted_none rfl) (by go_simp) rfl
    case o23 => intro aR wR hR; replace hR := hR.undrew; intro v48 h48 e48; replace e48 : v48 = .bool true := e48; subst e48; exact exec_val (c := .bool true) (wanted_none rfl) (by go_simp) rfl
  · intro vs wR hR hV
    obtain ⟨e0, e1, e2, e3, e4, e5, e6, e7, e8, e9, e10, e11, e12, e13, e14, e15, e16, e17, e18, e19, e20, e21, e22, e23, -⟩ := hV
    replace e0 : vs 0 = .slice oa 3 oc := e0
    replace e1 : vs 1 = .slice (some ⟨g, 0, none⟩) 3 3 := e1
    replace e2 : vs 2 = .pointer (some ⟨g, 1, none⟩) := e2
    replace e3 : vs 3 = .slice a2 2 c2 := e3
    replace e4 : vs 4 = .slice (some ⟨g, 0, none⟩) 3 3 := e4
    replace e5 : vs 5 = .pointer (some ⟨g, 0, none⟩) := e5
    replace e6 : vs 6 = .slice a1 2 c1 := e6
    replace e7 : vs 7 = .slice (some ⟨g, 0, none⟩) 3 3 := e7
    replace e8 : vs 8 = .pointer (some ⟨g, 2, none⟩) := e8
    replace e9 : vs 9 = .slice a3 2 c3 := e9
    replace e11 : vs 11 = .bool true := e11
    replace e12 : vs 12 = .bool true := e12
    replace e13 : vs 13 = .slice oa2 2 oc2 := e13
    replace e14 : vs 14 = .slice (some ⟨g, 0, none⟩) 3 3 := e14
    replace e15 : vs 15 = .pointer (some ⟨g, 0, none⟩) := e15
    replace e16 : vs 16 = .slice a1 2 c1 := e16
    replace e17 : vs 17 = .slice (some ⟨g, 0, none⟩) 3 3 := e17
    replace e18 : vs 18 = .pointer (some ⟨g, 2, none⟩) := e18
    replace e19 : vs 19 = .slice a3 2 c3 := e19
    replace e21 : vs 21 = .bool true := e21
    replace e22 : vs 22 = .bool true := e22
    replace e23 : vs 23 = .bool true := e23
    simp only [putAll, e0, e1, e2, e3, e4, e5, e6, e7, e8, e9, e11, e12, e13, e14, e15, e16, e17, e18, e19, e21, e22, e23, Nat.reduceAdd, Nat.zero_add]
    clear e0 e1 e2 e3 e4 e5 e6 e7 e8 e9 e11 e12 e13 e14 e15 e16 e17 e18 e19 e21 e22 e23
    try simp only [List.setIfInBounds_toArray, List.set_cons_succ, List.set_cons_zero]
    go_wp2_with fail
    go_ret
    exact ⟨rfl, (K5.out.tr K8.out).tr hR⟩
end Go.Proofs.Ytfacpfogdcefpaa
