/-
  Tables: rows in memory, and whether they may be.
  Tables: the document's May.
  Tables: the same values, the same rows.
  Tables: the same rows.
  Tables: copies.
  Tables: what Copy tells.
  Tables: what the document's Copy tells.
-/
import Derived.Test.YtfacpfogdcefpaaSrtF
import Derived.Test.YtfacpfogdcefpaaVal4
import Derived.Test.YtfacpfogdcefpaaSch6
import Derived.Laws.StructEq
import Derived.Deep.QuietTactic
import Derived.BigQuiet
import Derived.Shelf.Abstract
import Derived.Laws.CopyRow
namespace Go.Proofs.Ytfacpfogdcefpaa
open Go.RowKit
set_option linter.unusedSimpArgs false
set_option linter.unusedVariables false
set_option maxRecDepth 100000

instance : Inhabited Hd := ⟨⟨none, 0, 0, []⟩⟩
/-- A row's slice reads as the row. -/
def HdOk (w : World) (h : Hd) : Prop := h.n = h.row.length ∧ RdV w h.ad h.cap h.row
def hcells (h : Hd) : List Value := [.slice h.ad h.n h.cap]
theorem hlies : Lies hcells 1 := ⟨fun _ => rfl, fun x v hv => by simp [hcells] at hv; subst hv; rfl, by omega⟩
/-- A slice of rows. -/
def RdR (w : World) (ad : Option Addr) (cap : Nat) (hs : List Hd) : Prop := RdS hcells 1 w ad cap hs ∧ ∀ h ∈ hs, HdOk w h
def rowA (hs : List Hd) (i : Nat) : List V3 := (hs.getD i default).row
def atV (r : List V3) (k : Nat) : V3 := r.getD k default
theorem atV_eq (r : List V3) (k : Nat) (h : k < r.length) : atV r k = r[k] := by simp [atV, h]
theorem rowA_eq (hs : List Hd) (i : Nat) (h : i < hs.length) : rowA hs i = hs[i].row := by simp [rowA, h]
theorem HdOk.keep0 {w w' : World} {h : Hd} (hh : HdOk w h) (k : Kp [] w w') : HdOk w' h := ⟨hh.1, hh.2.keep0 k⟩
theorem RdR.keep0 {w w' : World} {ad : Option Addr} {cap : Nat} {hs : List Hd} (h : RdR w ad cap hs) (k : Kp [] w w') : RdR w' ad cap hs := ⟨h.1.keep0 hlies.len k, fun x hx => (h.2 x hx).keep0 k⟩
/-- A row of rows. -/
theorem RdR.at' {w : World} {ad : Option Addr} {cap : Nat} {hs : List Hd} (h : RdR w ad cap hs) (i : Nat) (hi : i < hs.length) :
    ∃ (b off : Nat) (ra : Option Addr) (n rc : Nat), ad = some ⟨b, off, none⟩ ∧ w.cell? ⟨b, off + i, none⟩ = some (.slice ra n rc) ∧ n = (rowA hs i).length ∧ RdV w ra rc (rowA hs i) := by
  obtain ⟨b, off, h1, h2⟩ := h.1.2.2 i hi
  obtain ⟨h3, h4⟩ := h.2 hs[i] (List.getElem_mem hi)
  have h5 := h2 0 (by omega)
  rw [rowA_eq hs i hi]
  exact ⟨b, off, _, _, _, h1, by simpa [hcells] using h5, h3, h4⟩
/-- A value of a row. -/
theorem RdV.atV {w : World} {ad : Option Addr} {cap : Nat} {r : List V3} (h : RdV w ad cap r) (k : Nat) (hk : k < r.length) :
    ∃ b off, ad = some ⟨b, off, none⟩ ∧ w.cell? ⟨b, off + k * 3, none⟩ = some (.int .u8 (atV r k).k) ∧ w.cell? ⟨b, off + k * 3 + 1, none⟩ = some (.int .i64 (atV r k).n) ∧ w.cell? ⟨b, off + k * 3 + 2, none⟩ = some (.string (atV r k).s) := by
  rw [atV_eq r k hk]; exact h.at' k hk

/-- Of which kind a column's values are. -/
def wantK (kd : Int) : Int := if kd = 2 then 2 else 1
def badV (r : List V3) (k : Nat) : Bool := !mayV (atV r k).k (atV r k).n (atV r k).s
def badRow (l : List Col) (r : List V3) : Bool := decide (r.length ≠ l.length) || upto r.length (badV r)
def oddV (l : List Col) (r : List V3) (k : Nat) : Bool := decide ((atV r k).k ≠ wantK (atC l k).kd)
def oddRow (l : List Col) (r : List V3) : Bool := upto r.length (oddV l r)
/-- May these rows be? -/
def mayT (l : List Col) (hs : List Hd) : Int := if !mayC l then 2 else if upto hs.length (fun i => badRow l (rowA hs i)) then 2 else if upto hs.length (fun i => oddRow l (rowA hs i)) then 9 else 0

theorem tkind_any (s : ByteArray) (kd : Int) (w : World) : Calls Try.prog 39 #[.agg #[.string s, .int .u8 kd]] w fun e w' => e = .returned (.int .u8 (wantK kd)) ∧ Kp [] w w' := by
  by_cases h : kd = 2
  · subst h
    go_enter Try.func39, Try.ntmps39
    go_wp2_with fail
    go_ret
    exact ⟨rfl, (Kp.refl [] w).alloc _⟩
  · have h2 : (kd == 2) = false := by simpa using h
    go_enter Try.func39, Try.ntmps39
    go_wp2_with fail
    go_ret
    exact ⟨by rw [wantK, if_neg h]; rfl, (Kp.refl [] w).alloc _⟩

set_option maxHeartbeats 1600000 in
theorem tMay_any (ad : Option Addr) (cap n : Nat) (l : List Col) (hn : n = l.length) (ra : Option Addr) (rc m : Nat) (hs : List Hd) (hm : m = hs.length) (w : World) (h : RdC w ad cap l) (ho : COk l) (hr : RdR w ra rc hs) (hmb : m ≤ 1000000) :
    Calls Try.prog 14 #[.slice ad n cap, .slice ra m rc] w fun e w' => e = .returned (.int .i64 (mayT l hs)) ∧ Kp [] w w' := by
  have H := Lib.hid h
  have HO := Lib.hid ho
  have HR := Lib.hid hr
  have HN := Lib.hid hn
  have HM := Lib.hid hm
  have hcap := h.1
  rw [← hn] at hcap
  have hcap2 := h.2.1
  clear h ho hr hn hm
  cases hmc : mayC l with
  | false =>
    have HV : Hid (mayT l hs = 2) := Lib.hid (by rw [mayT, hmc]; rfl)
    go_enter Try.func14, Try.ntmps14
    go_wp2_with fail
    refine (sMay_any ad cap n l HN.out w H.out HO.out).mono ?_
    rw [hmc]
    rintro e w1 ⟨rfl, kp1⟩
    go_wp2_with fail
    go_ret
    exact ⟨by rw [HV.out]; rfl, kp1⟩
  | true =>
    have HV : Hid (mayT l hs = if upto hs.length (fun i => badRow l (rowA hs i)) then 2 else if upto hs.length (fun i => oddRow l (rowA hs i)) then 9 else 0) := Lib.hid (by rw [mayT, hmc]; rfl)
    rw [← HM.out] at HV
    generalize mayT l hs = v at *
    go_enter Try.func14, Try.ntmps14
    go_wp2_with fail
    refine (sMay_any ad cap n l HN.out w H.out HO.out).mono ?_
    rw [hmc]
    rintro e w1 ⟨rfl, kp1⟩
    clear hmc
    go_wp2_with fail
    go_loopw [5, 15] (fun vo vi wr => ∃ (i : Nat) (o : Bool), i ≤ m ∧ vi = .int .i64 i ∧ vo = .bool o ∧ Hid (upto i (fun i => badRow l (rowA hs i)) = false) ∧ Hid (o = upto i (fun i => oddRow l (rowA hs i))) ∧ Hid (Kp [] w wr)) (fun _ vi _ => m - (intOf vi).toNat)
    case atStart => exact ⟨0, false, Nat.zero_le _, rfl, rfl, Lib.hid rfl, Lib.hid rfl, Lib.hid kp1⟩
    case round =>
      obtain ⟨i, o, hi, rfl, rfl, HB, HOD, HK⟩ := hrel
      obtain ⟨wo, rfl⟩ : ∃ wo : World, wo = wr := ⟨_, rfl⟩
      by_cases hlt : i < m
      · obtain ⟨b, off, xa, xn, xc, rfl, c0, hxn, hxr⟩ := (HR.out.keep0 HK.out).at' i (by rw [← HM.out]; exact hlt)
        have HSB : Hid (badRow l (rowA hs i) = true → v = 2) := Lib.hid (fun hb => by rw [HV.out, upto_yes (k := i) hlt hb]; rfl)
        have HST : Hid (badRow l (rowA hs i) = false → upto (i + 1) (fun i => badRow l (rowA hs i)) = false) := Lib.hid (fun hb => by rw [upto_step, HB.out, hb]; rfl)
        have HOS : Hid ((o || oddRow l (rowA hs i)) = upto (i + 1) (fun i => oddRow l (rowA hs i))) := Lib.hid (by rw [upto_step, ← HOD.out])
        generalize rowA hs i = r at *
        have HXN := Lib.hid hxn
        have HXR := Lib.hid hxr
        have hxc := hxr.1
        rw [← hxn] at hxc
        have hxc2 := hxr.2.1
        clear hxn hxr
        by_cases hne : xn = n
        · subst hne
          have hbb : ((xn : Int) != (xn : Int)) = false := by simp
          have HKO := HK
          clear HK
          go_wp2_with fail
          go_loopw [5, 26] (fun vo vk wr => ∃ (k : Nat) (o2 : Bool), k ≤ xn ∧ vk = .int .i64 k ∧ vo = .bool o2 ∧ Hid (upto k (badV r) = false) ∧ Hid (o2 = (o || upto k (oddV l r))) ∧ Hid (Kp [] wo wr)) (fun _ vk _ => xn - (intOf vk).toNat)
          case atStart => exact ⟨0, o, Nat.zero_le _, rfl, rfl, Lib.hid rfl, Lib.hid (by cases o <;> rfl), Lib.hid (Kp.refl _ _)⟩
          case round =>
            obtain ⟨k, o2, hk, rfl, rfl, HBV, HOV, HK⟩ := hrel
            obtain ⟨wi, rfl⟩ : ∃ wi : World, wi = wr := ⟨_, rfl⟩
            by_cases hlk : k < xn
            · have hkr : k < r.length := by rw [← HXN.out]; exact hlk
              obtain ⟨b2, off2, rfl, d0, d1, d2⟩ := (HXR.out.keep0 HK.out).atV k hkr
              have HKW := Lib.hid (HKO.out.tr HK.out)
              have HVB : Hid (mayV (atV r k).k (atV r k).n (atV r k).s = false → v = 2) := Lib.hid (fun hb => HSB.out (by
                have : badV r k = true := by rw [badV, hb]; rfl
                rw [badRow, upto_yes (k := k) (by rw [← HXN.out]; exact hlk) this, Bool.or_true]))
              have HVS : Hid (mayV (atV r k).k (atV r k).n (atV r k).s = true → upto (k + 1) (badV r) = false) := Lib.hid (fun hb => by rw [upto_step, HBV.out, badV, hb]; rfl)
              have HOS2 : Hid ((o2 || decide ((atV r k).k ≠ wantK (atC l k).kd)) = (o || upto (k + 1) (oddV l r))) := Lib.hid (by rw [upto_step, HOV.out, Bool.or_assoc]; rfl)
              generalize atV r k = vl at *
              obtain ⟨kk, nn, ss⟩ := vl
              dsimp only at d0 d1 d2 HVB HVS HOS2
              have hkl : k < l.length := by rw [← HN.out]; exact hlk
              have HKL := Lib.hid hkl
              clear hkr hkl
              go_wp2_with fail
              refine (vMay_any kk nn ss _).mono ?_
              rintro e w7 ⟨rfl, kp7⟩
              cases hmv : mayV kk nn ss
              · have HV2 := Lib.hid (HVB.out hmv)
                go_wp2_with fail
                go_ret
                exact ⟨by rw [HV2.out]; rfl, (HKW.out.alloc _).tr kp7⟩
              · have HV3 := Lib.hid (HVS.out hmv)
                have hpb := kp7.get (heap_alloc_at (w := wi) (o := .cells #[.int .u8 kk, .int .i64 nn, .string ss] 38) rfl) (by simp)
                have HPB := Lib.hid (cells3 hpb).1
                have HK7 := Lib.hid ((HK.out.alloc (.cells #[.int .u8 kk, .int .i64 nn, .string ss] 38)).tr kp7)
                obtain ⟨p, hp⟩ : ∃ p, p = wi.heap.size := ⟨_, rfl⟩
                rw [← hp] at HPB ⊢
                obtain ⟨b3, off3, rfl, -, -⟩ := H.out.atC k HKL.out
                have CX : Hid (∀ W, Kp [] w W → W.cell? ⟨b3, off3 + k * 2, none⟩ = some (.string (atC l k).nm) ∧ W.cell? ⟨b3, off3 + k * 2 + 1, none⟩ = some (.int .u8 (atC l k).kd)) := Lib.hid (fun W hW => by
                  obtain ⟨b4, off4, h4, h5, h6⟩ := (H.out.keep0 hW).atC k HKL.out
                  cases h4
                  exact ⟨h5, h6⟩)
                generalize (atC l k).nm = cn at *
                generalize (atC l k).kd = ck at *
                have HKW7 := Lib.hid (HKO.out.tr HK7.out)
                clear hpb hp d0 d1 d2 kp7 hmv HVB HVS
                cases o2
                · go_upto_region 14 with (fail)
                  refine wp_region_K (by kernel_rfl) [.val (.bool false), .val (.bool false), .val (.pointer (some ⟨p, 0, none⟩)), .val (.int .u8 kk), .val (.slice (some ⟨b3, off3, none⟩) xn cap), .val (.int .i64 (k : Int)), .val (.pointer (some ⟨b3, off3 + k * 2, none⟩)), .val (.agg #[.string cn, .int .u8 ck]), .val (.int .u8 (wantK ck)), .val (.bool (kk != wantK ck)), .val (.bool (kk != wantK ck)), .val (.bool (kk != wantK ck))] [[(5, none)], [(34, some 0)], [(35, some 1), (9, none)], [(35, some 1), (36, some 2)], [(35, some 1), (0, none)], [(35, some 1), (8, none)], [(35, some 1), (38, some 4), (39, some 5)], [(35, some 1), (40, some 6)], [(35, some 1), (41, some 7)], [(35, some 1), (37, some 3), (42, some 8)], [(35, some 1), (43, some 9)], [(44, some 10)]] rfl (by kernel_rfl) ?_ ?_
                  · refine ⟨?o0, ?o1, ?o2, ?o3, ?o4, ?o5, ?o6, ?o7, ?o8, ?o9, ?o10, ?o11, trivial⟩
                    case o0 => intro aR wR hR; replace hR := hR.undrew; intro (h5 : aR.tmps[5]? = some (.bool false)); exact exec_val (c := .bool false) (wanted_none rfl) (by go_simp) rfl
                    case o1 => intro aR wR hR; replace hR := hR.undrew; intro v34 h34 e34; replace e34 : v34 = .bool false := e34; subst e34; exact exec_val (c := .bool false) (wanted_none rfl) (by go_simp) rfl
                    case o2 => intro aR wR hR; replace hR := hR.undrew; intro v35 h35 e35; replace e35 : v35 = .bool false := e35; subst e35; intro (h9 : aR.tmps[9]? = some (.pointer (some ⟨p, 0, none⟩))); exact exec_val (c := .pointer (some ⟨p, 0, none⟩)) (wanted_yes (b := false) (t := 35) rfl rfl h35) (by go_simp) rfl
                    case o3 => intro aR wR hR; replace hR := hR.undrew; intro v35 h35 e35; replace e35 : v35 = .bool false := e35; subst e35; intro v36 h36 e36; replace e36 : v36 = .pointer (some ⟨p, 0, none⟩) := e36; subst e36; (have hcc := hR.cell HPB.out (by simp)); exact exec_val (c := .int .u8 kk) (wanted_yes (b := false) (t := 35) rfl rfl h35) (by go_simp) rfl
                    case o4 => intro aR wR hR; replace hR := hR.undrew; intro v35 h35 e35; replace e35 : v35 = .bool false := e35; subst e35; intro (h0 : aR.tmps[0]? = some (.slice (some ⟨b3, off3, none⟩) xn cap)); exact exec_val (c := .slice (some ⟨b3, off3, none⟩) xn cap) (wanted_yes (b := false) (t := 35) rfl rfl h35) (by go_simp) rfl
                    case o5 => intro aR wR hR; replace hR := hR.undrew; intro v35 h35 e35; replace e35 : v35 = .bool false := e35; subst e35; intro (h8 : aR.tmps[8]? = some (.int .i64 (k : Int))); exact exec_val (c := .int .i64 (k : Int)) (wanted_yes (b := false) (t := 35) rfl rfl h35) (by go_simp) rfl
                    case o6 => intro aR wR hR; replace hR := hR.undrew; intro v35 h35 e35; replace e35 : v35 = .bool false := e35; subst e35; intro v38 h38 e38; replace e38 : v38 = .slice (some ⟨b3, off3, none⟩) xn cap := e38; subst e38; intro v39 h39 e39; replace e39 : v39 = .int .i64 (k : Int) := e39; subst e39; exact exec_val (c := .pointer (some ⟨b3, off3 + k * 2, none⟩)) (wanted_yes (b := false) (t := 35) rfl rfl h35) (by go_simp) rfl
                    case o7 => intro aR wR hR; replace hR := hR.undrew; intro v35 h35 e35; replace e35 : v35 = .bool false := e35; subst e35; intro v40 h40 e40; replace e40 : v40 = .pointer (some ⟨b3, off3 + k * 2, none⟩) := e40; subst e40; (have hcc := CX.out wR (HKW7.out.tr hR); have hcc1 := hcc.1; have hcc2 := hcc.2); exact exec_val (c := .agg #[.string cn, .int .u8 ck]) (wanted_yes (b := false) (t := 35) rfl rfl h35) (by go_simp) rfl
                    case o8 => intro aR wR hR; replace hR := hR.undrew; intro v35 h35 e35; replace e35 : v35 = .bool false := e35; subst e35; intro v41 h41 e41; replace e41 : v41 = .agg #[.string cn, .int .u8 ck] := e41; subst e41; refine exec_call (wanted_yes (b := false) (t := 35) rfl rfl h35) (by go_simp; exact ⟨rfl, rfl⟩) ?_; refine (tkind_any cn ck wR).mono ?_; rintro e7 w8 ⟨rfl, kp8⟩; exact ⟨_, rfl, rfl, kp8⟩
                    case o9 => intro aR wR hR; replace hR := hR.undrew; intro v35 h35 e35; replace e35 : v35 = .bool false := e35; subst e35; intro v37 h37 e37; replace e37 : v37 = .int .u8 kk := e37; subst e37; intro v42 h42 e42; replace e42 : v42 = .int .u8 (wantK ck) := e42; subst e42; exact exec_val (c := .bool (kk != wantK ck)) (wanted_yes (b := false) (t := 35) rfl rfl h35) (by go_simp) rfl
                    case o10 => intro aR wR hR; replace hR := hR.undrew; intro v35 h35 e35; replace e35 : v35 = .bool false := e35; subst e35; intro v43 h43 e43; replace e43 : v43 = .bool (kk != wantK ck) := e43; subst e43; exact exec_val (c := .bool (kk != wantK ck)) (wanted_none rfl) (by go_simp) rfl
                    case o11 => intro aR wR hR; replace hR := hR.undrew; intro v44 h44 e44; replace e44 : v44 = .bool (kk != wantK ck) := e44; subst e44; exact exec_val (c := .bool (kk != wantK ck)) (wanted_none rfl) (by go_simp) rfl
                  · intro vs wR hR hV
                    obtain ⟨e0, e1, e2, e3, e4, e5, e6, e7, e8, e9, e10, e11, -⟩ := hV
                    replace e0 : vs 0 = .bool false := e0
                    replace e1 : vs 1 = .bool false := e1
                    replace e2 : vs 2 = .pointer (some ⟨p, 0, none⟩) := e2
                    replace e3 : vs 3 = .int .u8 kk := e3
                    replace e4 : vs 4 = .slice (some ⟨b3, off3, none⟩) xn cap := e4
                    replace e5 : vs 5 = .int .i64 (k : Int) := e5
                    replace e6 : vs 6 = .pointer (some ⟨b3, off3 + k * 2, none⟩) := e6
                    replace e7 : vs 7 = .agg #[.string cn, .int .u8 ck] := e7
                    replace e8 : vs 8 = .int .u8 (wantK ck) := e8
                    replace e9 : vs 9 = .bool (kk != wantK ck) := e9
                    replace e10 : vs 10 = .bool (kk != wantK ck) := e10
                    replace e11 : vs 11 = .bool (kk != wantK ck) := e11
                    simp only [putAll, e0, e1, e2, e3, e4, e5, e6, e7, e8, e9, e10, e11, Nat.reduceAdd, Nat.zero_add]
                    clear e0 e1 e2 e3 e4 e5 e6 e7 e8 e9 e10 e11
                    try simp only [List.setIfInBounds_toArray, List.set_cons_succ, List.set_cons_zero]
                    go_wp2_with fail
                    go_roundw
                    case rel => exact ⟨k + 1, kk != wantK ck, hlk, by go_num, rfl, HV3, Lib.hid (by rw [← HOS2.out, Bool.eq_iff_iff]; simp), Lib.hid (HK7.out.tr hR)⟩
                    case measure => simp [intOf]; omega
                · go_upto_region 14 with (fail)
                  refine wp_region_K (by kernel_rfl) [.val (.bool true), .val (.bool true), .val (undef), .val (undef), .val (undef), .val (undef), .val (undef), .val (undef), .val (undef), .val (undef), .val ((.bool true)), .val ((.bool true))] [[(5, none)], [(34, some 0)], [(35, some 1)], [(35, some 1)], [(35, some 1)], [(35, some 1)], [(35, some 1)], [(35, some 1)], [(35, some 1)], [(35, some 1)], [(35, some 1), (43, some 9)], [(44, some 10)]] rfl (by kernel_rfl) ?_ ?_
                  · refine ⟨?o0, ?o1, ?o2, ?o3, ?o4, ?o5, ?o6, ?o7, ?o8, ?o9, ?o10, ?o11, trivial⟩
                    case o0 => intro aR wR hR; replace hR := hR.undrew; intro (h5 : aR.tmps[5]? = some (.bool true)); exact exec_val (c := .bool true) (wanted_none rfl) (by go_simp) rfl
                    case o1 => intro aR wR hR; replace hR := hR.undrew; intro v34 h34 e34; replace e34 : v34 = .bool true := e34; subst e34; exact exec_val (c := .bool true) (wanted_none rfl) (by go_simp) rfl
                    case o2 => intro aR wR hR; replace hR := hR.undrew; intro v35 h35 e35; replace e35 : v35 = .bool true := e35; subst e35; exact exec_pass (wanted_not (b := false) (t := 35) rfl rfl h35) rfl
                    case o3 => intro aR wR hR; replace hR := hR.undrew; intro v35 h35 e35; replace e35 : v35 = .bool true := e35; subst e35; exact exec_pass (wanted_not (b := false) (t := 35) rfl rfl h35) rfl
                    case o4 => intro aR wR hR; replace hR := hR.undrew; intro v35 h35 e35; replace e35 : v35 = .bool true := e35; subst e35; exact exec_pass (wanted_not (b := false) (t := 35) rfl rfl h35) rfl
                    case o5 => intro aR wR hR; replace hR := hR.undrew; intro v35 h35 e35; replace e35 : v35 = .bool true := e35; subst e35; exact exec_pass (wanted_not (b := false) (t := 35) rfl rfl h35) rfl
                    case o6 => intro aR wR hR; replace hR := hR.undrew; intro v35 h35 e35; replace e35 : v35 = .bool true := e35; subst e35; exact exec_pass (wanted_not (b := false) (t := 35) rfl rfl h35) rfl
                    case o7 => intro aR wR hR; replace hR := hR.undrew; intro v35 h35 e35; replace e35 : v35 = .bool true := e35; subst e35; exact exec_pass (wanted_not (b := false) (t := 35) rfl rfl h35) rfl
                    case o8 => intro aR wR hR; replace hR := hR.undrew; intro v35 h35 e35; replace e35 : v35 = .bool true := e35; subst e35; exact exec_pass (wanted_not (b := false) (t := 35) rfl rfl h35) rfl
                    case o9 => intro aR wR hR; replace hR := hR.undrew; intro v35 h35 e35; replace e35 : v35 = .bool true := e35; subst e35; exact exec_pass (wanted_not (b := false) (t := 35) rfl rfl h35) rfl
                    case o10 => intro aR wR hR; replace hR := hR.undrew; intro v35 h35 e35; replace e35 : v35 = .bool true := e35; subst e35; intro v43 h43 e43; replace e43 : v43 = undef := e43; subst e43; exact exec_val (c := (.bool true)) (wanted_none rfl) (by go_simp) rfl
                    case o11 => intro aR wR hR; replace hR := hR.undrew; intro v44 h44 e44; replace e44 : v44 = (.bool true) := e44; subst e44; exact exec_val (c := (.bool true)) (wanted_none rfl) (by go_simp) rfl
                  · intro vs wR hR hV
                    obtain ⟨e0, e1, e2, e3, e4, e5, e6, e7, e8, e9, e10, e11, -⟩ := hV
                    replace e0 : vs 0 = .bool true := e0
                    replace e1 : vs 1 = .bool true := e1
                    replace e2 : vs 2 = undef := e2
                    replace e3 : vs 3 = undef := e3
                    replace e4 : vs 4 = undef := e4
                    replace e5 : vs 5 = undef := e5
                    replace e6 : vs 6 = undef := e6
                    replace e7 : vs 7 = undef := e7
                    replace e8 : vs 8 = undef := e8
                    replace e9 : vs 9 = undef := e9
                    replace e10 : vs 10 = (.bool true) := e10
                    replace e11 : vs 11 = (.bool true) := e11
                    simp only [putAll, e0, e1, e2, e3, e4, e5, e6, e7, e8, e9, e10, e11, Nat.reduceAdd, Nat.zero_add]
                    clear e0 e1 e2 e3 e4 e5 e6 e7 e8 e9 e10 e11
                    try simp only [List.setIfInBounds_toArray, List.set_cons_succ, List.set_cons_zero]
                    go_wp2_with fail
                    go_roundw
                    case rel => exact ⟨k + 1, true, hlk, by go_num, rfl, HV3, Lib.hid (by rw [← HOS2.out]; rfl), Lib.hid (HK7.out.tr hR)⟩
                    case measure => simp [intOf]; omega
            · obtain rfl : k = xn := by omega
              have hbr : badRow l r = false := by rw [badRow, decide_eq_false (by rw [← HXN.out, ← HN.out]; simp), ← HXN.out, HBV.out]; rfl
              have HBR := Lib.hid (HST.out hbr)
              have HOR : Hid (o2 = upto (i + 1) (fun i => oddRow l (rowA hs i))) := Lib.hid (by rw [← HOS.out, HOV.out, oddRow, ← HXN.out])
              clear hbr
              go_wp2_with fail
              go_roundw
              case rel => exact ⟨i + 1, o2, hlt, by go_num, rfl, HBR, HOR, Lib.hid (HKO.out.tr HK.out)⟩
              case measure => simp [intOf]; omega
        · have hbb : ((xn : Int) != (n : Int)) = true := by simp; omega
          go_wp2_with fail
          go_ret
          exact ⟨by rw [HSB.out (by rw [badRow, decide_eq_true (by rw [← HXN.out, ← HN.out]; exact hne)]; rfl)]; rfl, HK.out⟩
      · obtain rfl : i = m := by omega
        have hl3 : ¬ (16777216 : Int) < (i : Int) := by omega
        cases o
        · go_wp2_with fail
          go_ret
          exact ⟨by rw [HV.out, HB.out, ← HOD.out]; rfl, HK.out⟩
        · go_wp2_with fail
          go_ret
          exact ⟨by rw [HV.out, HB.out, ← HOD.out]; rfl, HK.out⟩
end Go.Proofs.Ytfacpfogdcefpaa
namespace Go.Proofs.Ytfacpfogdcefpaa
open Go.RowKit
set_option linter.unusedSimpArgs false
set_option linter.unusedVariables false
set_option maxRecDepth 100000

set_option maxHeartbeats 1600000 in
theorem r18May_any (ad : Option Addr) (cap n : Nat) (l : List Col) (hn : n = l.length) (ra : Option Addr) (rc m : Nat) (hs : List Hd) (hm : m = hs.length) (w : World) (h : RdC w ad cap l) (ho : COk l) (hr : RdR w ra rc hs) (hmb : m ≤ 1000000) :
    Calls Try.prog 15 #[.slice ad n cap, .slice ra m rc] w fun e w' => e = .returned (.int .i64 (mayT l hs)) ∧ Kp [] w w' := by
  have H := Lib.hid h
  have HO := Lib.hid ho
  have HR := Lib.hid hr
  have HN := Lib.hid hn
  have HM := Lib.hid hm
  have hcap := h.1
  rw [← hn] at hcap
  have hcap2 := h.2.1
  clear h ho hr hn hm
  cases hmc : mayC l with
  | false =>
    have HV : Hid (mayT l hs = 2) := Lib.hid (by rw [mayT, hmc]; rfl)
    go_enter Try.func15, Try.ntmps15
    go_wp2_with fail
    refine (r17May_any ad cap n l HN.out w H.out HO.out).mono ?_
    rw [hmc]
    rintro e w1 ⟨rfl, kp1⟩
    go_wp2_with fail
    go_ret
    exact ⟨by rw [HV.out]; rfl, kp1⟩
  | true =>
    have HV : Hid (mayT l hs = if upto hs.length (fun i => badRow l (rowA hs i)) then 2 else if upto hs.length (fun i => oddRow l (rowA hs i)) then 9 else 0) := Lib.hid (by rw [mayT, hmc]; rfl)
    rw [← HM.out] at HV
    generalize mayT l hs = v at *
    go_enter Try.func15, Try.ntmps15
    go_wp2_with fail
    refine (r17May_any ad cap n l HN.out w H.out HO.out).mono ?_
    rw [hmc]
    rintro e w1 ⟨rfl, kp1⟩
    clear hmc
    go_wp2_with fail
    go_loopw [5, 6] (fun vo vi wr => ∃ (i : Nat) (o : Bool), i ≤ m ∧ vi = .int .i64 i ∧ vo = .int .i64 (if o then 9 else 0) ∧ Hid (upto i (fun i => badRow l (rowA hs i)) = false) ∧ Hid (o = upto i (fun i => oddRow l (rowA hs i))) ∧ Hid (Kp [] w wr)) (fun _ vi _ => m - (intOf vi).toNat)
    case atStart => exact ⟨0, false, Nat.zero_le _, rfl, rfl, Lib.hid rfl, Lib.hid rfl, Lib.hid kp1⟩
    case round =>
      obtain ⟨i, o, hi, rfl, rfl, HB, HOD, HK⟩ := hrel
      obtain ⟨wo, rfl⟩ : ∃ wo : World, wo = wr := ⟨_, rfl⟩
      by_cases hlt : i < m
      · obtain ⟨b, off, xa, xn, xc, rfl, c0, hxn, hxr⟩ := (HR.out.keep0 HK.out).at' i (by rw [← HM.out]; exact hlt)
        have C0 := Lib.hid c0
        have HSB : Hid (badRow l (rowA hs i) = true → v = 2) := Lib.hid (fun hb => by rw [HV.out, upto_yes (k := i) hlt hb]; rfl)
        have HST : Hid (badRow l (rowA hs i) = false → upto (i + 1) (fun i => badRow l (rowA hs i)) = false) := Lib.hid (fun hb => by rw [upto_step, HB.out, hb]; rfl)
        have HOS : Hid ((o || oddRow l (rowA hs i)) = upto (i + 1) (fun i => oddRow l (rowA hs i))) := Lib.hid (by rw [upto_step, ← HOD.out])
        generalize rowA hs i = r at *
        have HXN := Lib.hid hxn
        have HXR := Lib.hid hxr
        have hxc := hxr.1
        rw [← hxn] at hxc
        have hxc2 := hxr.2.1
        clear hxn hxr
        obtain ⟨ov, hov⟩ : ∃ ov : Int, ov = if o then 9 else 0 := ⟨_, rfl⟩
        rw [← hov]
        have HOVV := Lib.hid hov
        clear hov
        by_cases hne : xn = n
        · subst hne
          have hbb : ((xn : Int) != (xn : Int)) = false := by simp
          have HKO := HK
          clear HK
          go_wp2_with fail
          go_loopw [5, 7] (fun vo vk wr => ∃ (k : Nat) (o2 : Bool), k ≤ xn ∧ vk = .int .i64 k ∧ vo = .int .i64 (if o2 then 9 else 0) ∧ Hid (upto k (badV r) = false) ∧ Hid (o2 = (o || upto k (oddV l r))) ∧ Hid (Kp [] wo wr)) (fun _ vk _ => xn - (intOf vk).toNat)
          case atStart => exact ⟨0, o, Nat.zero_le _, rfl, by rw [HOVV.out], Lib.hid rfl, Lib.hid (by cases o <;> rfl), Lib.hid (Kp.refl _ _)⟩
          case round =>
            obtain ⟨k, o2, hk, rfl, rfl, HBV, HOV, HK⟩ := hrel
            obtain ⟨wi, rfl⟩ : ∃ wi : World, wi = wr := ⟨_, rfl⟩
            have c0 := HK.out.cell C0.out (by simp)
            by_cases hlk : k < xn
            · have hkr : k < r.length := by rw [← HXN.out]; exact hlk
              obtain ⟨b2, off2, rfl, d0, d1, d2⟩ := (HXR.out.keep0 HK.out).atV k hkr
              have HKW := Lib.hid (HKO.out.tr HK.out)
              have HVB : Hid (mayV (atV r k).k (atV r k).n (atV r k).s = false → v = 2) := Lib.hid (fun hb => HSB.out (by
                have : badV r k = true := by rw [badV, hb]; rfl
                rw [badRow, upto_yes (k := k) (by rw [← HXN.out]; exact hlk) this, Bool.or_true]))
              have HVS : Hid (mayV (atV r k).k (atV r k).n (atV r k).s = true → upto (k + 1) (badV r) = false) := Lib.hid (fun hb => by rw [upto_step, HBV.out, badV, hb]; rfl)
              have HOS2 : Hid ((o2 || decide ((atV r k).k ≠ wantK (atC l k).kd)) = (o || upto (k + 1) (oddV l r))) := Lib.hid (by rw [upto_step, HOV.out, Bool.or_assoc]; rfl)
              generalize atV r k = vl at *
              obtain ⟨kk, nn, ss⟩ := vl
              dsimp only at d0 d1 d2 HVB HVS HOS2
              have hkl : k < l.length := by rw [← HN.out]; exact hlk
              have HKL := Lib.hid hkl
              have D0 := Lib.hid d0
              clear hkr hkl
              obtain ⟨ow, how⟩ : ∃ ow : Int, ow = if o2 then 9 else 0 := ⟨_, rfl⟩
              rw [← how]
              have HOW := Lib.hid how
              clear how
              go_wp2_with fail
              refine (r10May_any kk nn ss _).mono ?_
              rintro e w7 ⟨rfl, kp7⟩
              cases hmv : mayV kk nn ss
              · have HV2 := Lib.hid (HVB.out hmv)
                go_wp2_with fail
                go_ret
                exact ⟨by rw [HV2.out]; rfl, HKW.out.tr kp7⟩
              · have HV3 := Lib.hid (HVS.out hmv)
                have HK7 := Lib.hid (HK.out.tr kp7)
                have HKW7 := Lib.hid (HKO.out.tr HK7.out)
                have c7 := kp7.cell c0 (by simp)
                have d7 := kp7.cell D0.out (by simp)
                obtain ⟨b3, off3, rfl, e5, e6⟩ := (H.out.keep0 HKW7.out).atC k HKL.out
                generalize (atC l k).nm = cn at *
                generalize (atC l k).kd = ck at *
                clear c0 d0 d1 d2 kp7 hmv HVB HVS e5
                by_cases hc2 : ck = 2
                · subst hc2
                  by_cases hkk : kk = 2
                  · subst hkk
                    have HF : Hid (o2 = (o || upto (k + 1) (oddV l r))) := Lib.hid (by rw [← HOS2.out]; simp [wantK])
                    go_wp2_with fail
                    go_roundw
                    case rel => exact ⟨k + 1, o2, hlk, by go_num, by rw [HOW.out], HV3, HF, HK7⟩
                    case measure => simp [intOf]; omega
                  · have HF : Hid (true = (o || upto (k + 1) (oddV l r))) := Lib.hid (by rw [← HOS2.out]; simp [wantK, hkk])
                    have hk2 : (kk != 2) = true := by simpa using hkk
                    go_wp2_with fail
                    go_roundw
                    case rel => exact ⟨k + 1, true, hlk, by go_num, rfl, HV3, HF, HK7⟩
                    case measure => simp [intOf]; omega
                · have hc3 : (ck == 2) = false := by simpa using hc2
                  by_cases hkk : kk = 1
                  · subst hkk
                    have HF : Hid (o2 = (o || upto (k + 1) (oddV l r))) := Lib.hid (by rw [← HOS2.out]; simp [wantK, hc2])
                    go_wp2_with fail
                    go_roundw
                    case rel => exact ⟨k + 1, o2, hlk, by go_num, by rw [HOW.out], HV3, HF, HK7⟩
                    case measure => simp [intOf]; omega
                  · have HF : Hid (true = (o || upto (k + 1) (oddV l r))) := Lib.hid (by rw [← HOS2.out]; simp [wantK, hkk, hc2])
                    have hk2 : (kk != 1) = true := by simpa using hkk
                    go_wp2_with fail
                    go_roundw
                    case rel => exact ⟨k + 1, true, hlk, by go_num, rfl, HV3, HF, HK7⟩
                    case measure => simp [intOf]; omega
            · obtain rfl : k = xn := by omega
              have hbr : badRow l r = false := by rw [badRow, decide_eq_false (by rw [← HXN.out, ← HN.out]; simp), ← HXN.out, HBV.out]; rfl
              have HBR := Lib.hid (HST.out hbr)
              have HOR : Hid (o2 = upto (i + 1) (fun i => oddRow l (rowA hs i))) := Lib.hid (by rw [← HOS.out, HOV.out, oddRow, ← HXN.out])
              obtain ⟨ow, how⟩ : ∃ ow : Int, ow = if o2 then 9 else 0 := ⟨_, rfl⟩
              rw [← how]
              have HOW := Lib.hid how
              clear hbr how
              go_wp2_with fail
              go_roundw
              case rel => exact ⟨i + 1, o2, hlt, by go_num, by rw [HOW.out], HBR, HOR, Lib.hid (HKO.out.tr HK.out)⟩
              case measure => simp [intOf]; omega
        · have hbb : ((xn : Int) != (n : Int)) = true := by simp; omega
          go_wp2_with fail
          go_ret
          exact ⟨by rw [HSB.out (by rw [badRow, decide_eq_true (by rw [← HXN.out, ← HN.out]; exact hne)]; rfl)]; rfl, HK.out⟩
      · obtain rfl : i = m := by omega
        have HV2 : Hid (v = if o then 9 else 0) := Lib.hid (by rw [HV.out, HB.out, ← HOD.out]; cases o <;> rfl)
        rw [← HV2.out]
        go_wp2_with fail
        go_ret
        exact ⟨rfl, HK.out⟩
end Go.Proofs.Ytfacpfogdcefpaa
namespace Go.Proofs.Ytfacpfogdcefpaa
open Go.RowKit
set_option linter.unusedSimpArgs false
set_option linter.unusedVariables false
set_option maxRecDepth 100000

/-- The same value? -/
def eqV (x y : V3) : Bool := x.k == y.k && (x.n == y.n && x.s.toList == y.s.toList)
theorem eqV_iff {x y : V3} : eqV x y = true ↔ x = y := by
  obtain ⟨k, n, s⟩ := x
  obtain ⟨k', n', s'⟩ := y
  simp only [eqV, Bool.and_eq_true, beq_iff_eq, V3.mk.injEq]
  rw [ByteArray.toList_eq, ByteArray.toList_eq]
  constructor
  · rintro ⟨h1, h2, h3⟩
    exact ⟨h1, h2, ByteArray.ext (Array.toList_inj.1 h3)⟩
  · rintro ⟨h1, h2, h3⟩
    exact ⟨h1, h2, by rw [h3]⟩
def vagg (x : V3) : Value := .agg #[.int .u8 x.k, .int .i64 x.n, .string x.s]
theorem eq_in (x y : V3) (w : World) : (Op.equalIn 10000 38 (vagg x) (vagg y)).run Try.prog w = .ok (eqV x y) w := by
  have u1 := Try.underlying5
  have u2 := Try.underlying2
  have u3 := Try.underlying9
  have hS : Try.prog.underlying 38 = some (.struct (Try.prog.fieldsOf 38)) := by kernel_rfl
  have hp : Try.prog.stoodInHeld 38 = false := by kernel_rfl
  have a1 : ∀ w, (isAgg 5).run Try.prog w = .ok false w := fun w => by simp [isAgg, run_underlying u1]
  have a2 : ∀ w, (isAgg 2).run Try.prog w = .ok false w := fun w => by simp [isAgg, run_underlying u2]
  have a3 : ∀ w, (isAgg 9).run Try.prog w = .ok false w := fun w => by simp [isAgg, run_underlying u3]
  unfold vagg
  rw [show (10000 : Nat) = 9999 + 1 from rfl, run_equalIn_agg w 9999 38 _ _ hS hp]
  simp only [Program.fieldsOf, Try.underlying38]
  go_simp
  by_cases h1 : x.k = y.k <;> by_cases h2 : x.n = y.n <;> by_cases h3 : x.s.toList = y.s.toList <;> simp [h1, h2, h3, eqV]
theorem neq_V (x y : V3) (w : World) : (binOp .neq 38 (vagg x) (vagg y)).run Try.prog w = .ok (.bool (!eqV x y)) w := by
  have := eq_in x y w
  unfold vagg at this ⊢
  rw [run_neq_struct, this]; rfl
theorem eql_V (x y : V3) (w : World) : (binOp .eql 38 (vagg x) (vagg y)).run Try.prog w = .ok (.bool (eqV x y)) w := by
  have := eq_in x y w
  unfold vagg at this ⊢
  rw [run_eql_struct, this]; rfl

/-- The same row? -/
def difV (a b : List V3) (i : Nat) : Bool := !eqV (atV a i) (atV b i)
def sameL (a b : List V3) : Bool := decide (a.length = b.length) && !upto a.length (difV a b)
theorem sameL_iff {a b : List V3} : sameL a b = true ↔ a = b := by
  rw [sameL, Bool.and_eq_true, decide_eq_true_eq, nupto]
  constructor
  · rintro ⟨h1, h2⟩
    apply List.ext_getElem h1
    intro i hi hj
    have h3 := h2 i hi
    rw [difV, Bool.not_eq_false'] at h3
    have := eqV_iff.1 h3
    rwa [atV_eq a i hi, atV_eq b i hj] at this
  · rintro rfl; exact ⟨rfl, fun k _ => by rw [difV, eqV_iff.2 rfl]; rfl⟩
theorem sameL_self (a : List V3) : sameL a a = true := sameL_iff.2 rfl

set_option maxHeartbeats 800000 in
theorem slEqualV_any (a0 : Option Addr) (c0 n : Nat) (a : List V3) (hn : n = a.length) (b0 : Option Addr) (c1 m : Nat) (b : List V3) (hm : m = b.length) (w : World) (ha : RdV w a0 c0 a) (hb : RdV w b0 c1 b) :
    Calls Try.prog 43 #[.slice a0 n c0, .slice b0 m c1] w fun e w' => e = .returned (.bool (sameL a b)) ∧ Kp [] w w' := by
  have HN := Lib.hid hn
  have HM := Lib.hid hm
  have HA := Lib.hid ha
  have HB := Lib.hid hb
  have hcap := ha.1
  rw [← hn] at hcap
  have hcap2 := ha.2.1
  clear hn hm ha hb
  by_cases hne : n = m
  · subst hne
    have HV : Hid (sameL a b = !upto n (difV a b)) := Lib.hid (by rw [sameL, decide_eq_true (by rw [← HN.out, ← HM.out]), ← HN.out]; rfl)
    generalize sameL a b = v at *
    have hbb : ((n : Int) != (n : Int)) = false := by simp
    go_enter Try.func43, Try.ntmps43
    go_wp2_with fail
    go_loopw [5, 13] (fun _ vi wr => ∃ k : Nat, k ≤ n ∧ vi = .int .i64 k ∧ Hid (upto k (difV a b) = false) ∧ Hid (Kp [] w wr)) (fun _ vi _ => n - (intOf vi).toNat)
    case atStart => exact ⟨0, Nat.zero_le _, rfl, Lib.hid rfl, Lib.hid (Kp.refl _ _)⟩
    case round =>
      obtain ⟨k, hk, rfl, HX, HK⟩ := hrel
      obtain ⟨wo, rfl⟩ : ∃ wo : World, wo = wr := ⟨_, rfl⟩
      by_cases hlt : k < n
      · obtain ⟨b1, off1, rfl, -⟩ := HA.out.atV k (by rw [← HN.out]; exact hlt)
        obtain ⟨b2, off2, rfl, -⟩ := HB.out.atV k (by rw [← HM.out]; exact hlt)
        have CA : Hid (∀ W, Kp [] w W → W.cell? ⟨b1, off1 + k * 3, none⟩ = some (.int .u8 (atV a k).k) ∧ W.cell? ⟨b1, off1 + k * 3 + 1, none⟩ = some (.int .i64 (atV a k).n) ∧ W.cell? ⟨b1, off1 + k * 3 + 2, none⟩ = some (.string (atV a k).s)) := Lib.hid (fun W hW => by
          obtain ⟨b4, off4, h4, h5⟩ := (HA.out.keep0 hW).atV k (by rw [← HN.out]; exact hlt)
          cases h4; exact h5)
        have CB : Hid (∀ W, Kp [] w W → W.cell? ⟨b2, off2 + k * 3, none⟩ = some (.int .u8 (atV b k).k) ∧ W.cell? ⟨b2, off2 + k * 3 + 1, none⟩ = some (.int .i64 (atV b k).n) ∧ W.cell? ⟨b2, off2 + k * 3 + 2, none⟩ = some (.string (atV b k).s)) := Lib.hid (fun W hW => by
          obtain ⟨b4, off4, h4, h5⟩ := (HB.out.keep0 hW).atV k (by rw [← HM.out]; exact hlt)
          cases h4; exact h5)
        have HST : Hid (eqV (atV a k) (atV b k) = true → upto (k + 1) (difV a b) = false) := Lib.hid (fun h => by rw [upto_step, HX.out, difV, h]; rfl)
        have HBD : Hid (eqV (atV a k) (atV b k) = false → v = false) := Lib.hid (fun h => by rw [HV.out, upto_yes (k := k) hlt (by rw [difV, h]; rfl)]; rfl)
        have hne := neq_V (atV a k) (atV b k)
        unfold vagg at hne
        generalize eqV (atV a k) (atV b k) = q at *
        generalize atV a k = x at *
        generalize atV b k = y at *
        go_upto_region 6 with (fail)
        refine wp_region_K (by kernel_rfl) [.val (.slice (some ⟨b1, off1, none⟩) n c0), .val (.int .i64 (k : Int)), .val (.pointer (some ⟨b1, off1 + k * 3, none⟩)), .val (.agg #[.int .u8 x.k, .int .i64 x.n, .string x.s]), .val (.slice (some ⟨b2, off2, none⟩) n c1), .val (.int .i64 (k : Int)), .val (.pointer (some ⟨b2, off2 + k * 3, none⟩)), .val (.agg #[.int .u8 y.k, .int .i64 y.n, .string y.s]), .val (.bool (!q))] [[(0, none)], [(5, none)], [(16, some 0), (17, some 1)], [(18, some 2)], [(1, none)], [(5, none)], [(20, some 4), (21, some 5)], [(22, some 6)], [(19, some 3), (23, some 7)]] rfl (by kernel_rfl) ?_ ?_
        · refine ⟨?o0, ?o1, ?o2, ?o3, ?o4, ?o5, ?o6, ?o7, ?o8, trivial⟩
          case o0 => intro aR wR hR; replace hR := hR.undrew; intro (h0 : aR.tmps[0]? = some (.slice (some ⟨b1, off1, none⟩) n c0)); exact exec_val (c := .slice (some ⟨b1, off1, none⟩) n c0) (wanted_none rfl) (by go_simp) rfl
          case o1 => intro aR wR hR; replace hR := hR.undrew; intro (h5 : aR.tmps[5]? = some (.int .i64 (k : Int))); exact exec_val (c := .int .i64 (k : Int)) (wanted_none rfl) (by go_simp) rfl
          case o2 => intro aR wR hR; replace hR := hR.undrew; intro v16 h16 e16; replace e16 : v16 = .slice (some ⟨b1, off1, none⟩) n c0 := e16; subst e16; intro v17 h17 e17; replace e17 : v17 = .int .i64 (k : Int) := e17; subst e17; exact exec_val (c := .pointer (some ⟨b1, off1 + k * 3, none⟩)) (wanted_none rfl) (by go_simp) rfl
          case o3 => intro aR wR hR; replace hR := hR.undrew; intro v18 h18 e18; replace e18 : v18 = .pointer (some ⟨b1, off1 + k * 3, none⟩) := e18; subst e18; (obtain ⟨h1, h2, h3⟩ := CA.out wR (HK.out.tr hR)); exact exec_val (c := .agg #[.int .u8 x.k, .int .i64 x.n, .string x.s]) (wanted_none rfl) (by go_simp) rfl
          case o4 => intro aR wR hR; replace hR := hR.undrew; intro (h1 : aR.tmps[1]? = some (.slice (some ⟨b2, off2, none⟩) n c1)); exact exec_val (c := .slice (some ⟨b2, off2, none⟩) n c1) (wanted_none rfl) (by go_simp) rfl
          case o5 => intro aR wR hR; replace hR := hR.undrew; intro (h5 : aR.tmps[5]? = some (.int .i64 (k : Int))); exact exec_val (c := .int .i64 (k : Int)) (wanted_none rfl) (by go_simp) rfl
          case o6 => intro aR wR hR; replace hR := hR.undrew; intro v20 h20 e20; replace e20 : v20 = .slice (some ⟨b2, off2, none⟩) n c1 := e20; subst e20; intro v21 h21 e21; replace e21 : v21 = .int .i64 (k : Int) := e21; subst e21; exact exec_val (c := .pointer (some ⟨b2, off2 + k * 3, none⟩)) (wanted_none rfl) (by go_simp) rfl
          case o7 => intro aR wR hR; replace hR := hR.undrew; intro v22 h22 e22; replace e22 : v22 = .pointer (some ⟨b2, off2 + k * 3, none⟩) := e22; subst e22; (obtain ⟨h1, h2, h3⟩ := CB.out wR (HK.out.tr hR)); exact exec_val (c := .agg #[.int .u8 y.k, .int .i64 y.n, .string y.s]) (wanted_none rfl) (by go_simp) rfl
          case o8 => intro aR wR hR; replace hR := hR.undrew; intro v19 h19 e19; replace e19 : v19 = .agg #[.int .u8 x.k, .int .i64 x.n, .string x.s] := e19; subst e19; intro v23 h23 e23; replace e23 : v23 = .agg #[.int .u8 y.k, .int .i64 y.n, .string y.s] := e23; subst e23; exact exec_val (c := .bool (!q)) (wanted_none rfl) (by go_simp) rfl
        · intro vs wR hR hV
          obtain ⟨e0, e1, e2, e3, e4, e5, e6, e7, e8, -⟩ := hV
          replace e0 : vs 0 = .slice (some ⟨b1, off1, none⟩) n c0 := e0
          replace e1 : vs 1 = .int .i64 (k : Int) := e1
          replace e2 : vs 2 = .pointer (some ⟨b1, off1 + k * 3, none⟩) := e2
          replace e3 : vs 3 = .agg #[.int .u8 x.k, .int .i64 x.n, .string x.s] := e3
          replace e4 : vs 4 = .slice (some ⟨b2, off2, none⟩) n c1 := e4
          replace e5 : vs 5 = .int .i64 (k : Int) := e5
          replace e6 : vs 6 = .pointer (some ⟨b2, off2 + k * 3, none⟩) := e6
          replace e7 : vs 7 = .agg #[.int .u8 y.k, .int .i64 y.n, .string y.s] := e7
          replace e8 : vs 8 = .bool (!q) := e8
          simp only [putAll, e0, e1, e2, e3, e4, e5, e6, e7, e8, Nat.reduceAdd, Nat.zero_add]
          clear e0 e1 e2 e3 e4 e5 e6 e7 e8
          try simp only [List.setIfInBounds_toArray, List.set_cons_succ, List.set_cons_zero]
          cases q
          · have HF := Lib.hid (HBD.out rfl)
            go_wp2_with fail
            go_ret
            exact ⟨by rw [HF.out]; rfl, HK.out.tr hR⟩
          · have HF := Lib.hid (HST.out rfl)
            go_wp2_with fail
            go_roundw
            case rel => exact ⟨k + 1, hlt, by go_num, HF, Lib.hid (HK.out.tr hR)⟩
            case measure => simp [intOf]; omega
      · obtain rfl : k = n := by omega
        go_wp2_with fail
        go_ret
        exact ⟨by rw [HV.out, HX.out]; rfl, HK.out⟩
  · have HV : Hid (sameL a b = false) := Lib.hid (by rw [sameL, decide_eq_false (by rw [← HN.out, ← HM.out]; exact hne)]; rfl)
    have hbb : ((n : Int) != (m : Int)) = true := by simp; omega
    go_enter Try.func43, Try.ntmps43
    go_wp2_with fail
    go_ret
    exact ⟨by rw [HV.out]; rfl, Kp.refl _ _⟩

set_option maxHeartbeats 800000 in
theorem r10Same_any (a0 : Option Addr) (c0 n : Nat) (a : List V3) (hn : n = a.length) (b0 : Option Addr) (c1 m : Nat) (b : List V3) (hm : m = b.length) (w : World) (ha : RdV w a0 c0 a) (hb : RdV w b0 c1 b) :
    Calls Try.prog 21 #[.slice a0 n c0, .slice b0 m c1] w fun e w' => e = .returned (.bool (sameL a b)) ∧ Kp [] w w' := by
  have HN := Lib.hid hn
  have HM := Lib.hid hm
  have HA := Lib.hid ha
  have HB := Lib.hid hb
  have hcap := ha.1
  rw [← hn] at hcap
  have hcap2 := ha.2.1
  clear hn hm ha hb
  by_cases hne : n = m
  · subst hne
    have HV : Hid (sameL a b = !upto n (difV a b)) := Lib.hid (by rw [sameL, decide_eq_true (by rw [← HN.out, ← HM.out]), ← HN.out]; rfl)
    generalize sameL a b = v at *
    have hbb : ((n : Int) != (n : Int)) = false := by simp
    go_enter Try.func21, Try.ntmps21
    go_wp2_with fail
    go_loopw [5] (fun vi wr => ∃ k : Nat, k ≤ n ∧ vi = .int .i64 k ∧ Hid (upto k (difV a b) = false) ∧ Hid (Kp [] w wr)) (fun vi _ => n - (intOf vi).toNat)
    case atStart => exact ⟨0, Nat.zero_le _, rfl, Lib.hid rfl, Lib.hid (Kp.refl _ _)⟩
    case round =>
      obtain ⟨k, hk, rfl, HX, HK⟩ := hrel
      obtain ⟨wo, rfl⟩ : ∃ wo : World, wo = wr := ⟨_, rfl⟩
      by_cases hlt : k < n
      · obtain ⟨b1, off1, rfl, -⟩ := HA.out.atV k (by rw [← HN.out]; exact hlt)
        obtain ⟨b2, off2, rfl, -⟩ := HB.out.atV k (by rw [← HM.out]; exact hlt)
        have CA : Hid (∀ W, Kp [] w W → W.cell? ⟨b1, off1 + k * 3, none⟩ = some (.int .u8 (atV a k).k) ∧ W.cell? ⟨b1, off1 + k * 3 + 1, none⟩ = some (.int .i64 (atV a k).n) ∧ W.cell? ⟨b1, off1 + k * 3 + 2, none⟩ = some (.string (atV a k).s)) := Lib.hid (fun W hW => by
          obtain ⟨b4, off4, h4, h5⟩ := (HA.out.keep0 hW).atV k (by rw [← HN.out]; exact hlt)
          cases h4; exact h5)
        have CB : Hid (∀ W, Kp [] w W → W.cell? ⟨b2, off2 + k * 3, none⟩ = some (.int .u8 (atV b k).k) ∧ W.cell? ⟨b2, off2 + k * 3 + 1, none⟩ = some (.int .i64 (atV b k).n) ∧ W.cell? ⟨b2, off2 + k * 3 + 2, none⟩ = some (.string (atV b k).s)) := Lib.hid (fun W hW => by
          obtain ⟨b4, off4, h4, h5⟩ := (HB.out.keep0 hW).atV k (by rw [← HM.out]; exact hlt)
          cases h4; exact h5)
        have HST : Hid (eqV (atV a k) (atV b k) = true → upto (k + 1) (difV a b) = false) := Lib.hid (fun h => by rw [upto_step, HX.out, difV, h]; rfl)
        have HBD : Hid (eqV (atV a k) (atV b k) = false → v = false) := Lib.hid (fun h => by rw [HV.out, upto_yes (k := k) hlt (by rw [difV, h]; rfl)]; rfl)
        have hne := neq_V (atV a k) (atV b k)
        unfold vagg at hne
        generalize eqV (atV a k) (atV b k) = q at *
        generalize atV a k = x at *
        generalize atV b k = y at *
        go_upto_region 6 with (fail)
        refine wp_region_K (by kernel_rfl) [.val (.slice (some ⟨b1, off1, none⟩) n c0), .val (.int .i64 (k : Int)), .val (.pointer (some ⟨b1, off1 + k * 3, none⟩)), .val (.agg #[.int .u8 x.k, .int .i64 x.n, .string x.s]), .val (.slice (some ⟨b2, off2, none⟩) n c1), .val (.int .i64 (k : Int)), .val (.pointer (some ⟨b2, off2 + k * 3, none⟩)), .val (.agg #[.int .u8 y.k, .int .i64 y.n, .string y.s]), .val (.bool (!q))] [[(0, none)], [(5, none)], [(17, some 0), (18, some 1)], [(19, some 2)], [(1, none)], [(5, none)], [(21, some 4), (22, some 5)], [(23, some 6)], [(20, some 3), (24, some 7)]] rfl (by kernel_rfl) ?_ ?_
        · refine ⟨?o0, ?o1, ?o2, ?o3, ?o4, ?o5, ?o6, ?o7, ?o8, trivial⟩
          case o0 => intro aR wR hR; replace hR := hR.undrew; intro (h0 : aR.tmps[0]? = some (.slice (some ⟨b1, off1, none⟩) n c0)); exact exec_val (c := .slice (some ⟨b1, off1, none⟩) n c0) (wanted_none rfl) (by go_simp) rfl
          case o1 => intro aR wR hR; replace hR := hR.undrew; intro (h5 : aR.tmps[5]? = some (.int .i64 (k : Int))); exact exec_val (c := .int .i64 (k : Int)) (wanted_none rfl) (by go_simp) rfl
          case o2 => intro aR wR hR; replace hR := hR.undrew; intro v17 h17 e17; replace e17 : v17 = .slice (some ⟨b1, off1, none⟩) n c0 := e17; subst e17; intro v18 h18 e18; replace e18 : v18 = .int .i64 (k : Int) := e18; subst e18; exact exec_val (c := .pointer (some ⟨b1, off1 + k * 3, none⟩)) (wanted_none rfl) (by go_simp) rfl
          case o3 => intro aR wR hR; replace hR := hR.undrew; intro v19 h19 e19; replace e19 : v19 = .pointer (some ⟨b1, off1 + k * 3, none⟩) := e19; subst e19; (obtain ⟨h1, h2, h3⟩ := CA.out wR (HK.out.tr hR)); exact exec_val (c := .agg #[.int .u8 x.k, .int .i64 x.n, .string x.s]) (wanted_none rfl) (by go_simp) rfl
          case o4 => intro aR wR hR; replace hR := hR.undrew; intro (h1 : aR.tmps[1]? = some (.slice (some ⟨b2, off2, none⟩) n c1)); exact exec_val (c := .slice (some ⟨b2, off2, none⟩) n c1) (wanted_none rfl) (by go_simp) rfl
          case o5 => intro aR wR hR; replace hR := hR.undrew; intro (h5 : aR.tmps[5]? = some (.int .i64 (k : Int))); exact exec_val (c := .int .i64 (k : Int)) (wanted_none rfl) (by go_simp) rfl
          case o6 => intro aR wR hR; replace hR := hR.undrew; intro v21 h21 e21; replace e21 : v21 = .slice (some ⟨b2, off2, none⟩) n c1 := e21; subst e21; intro v22 h22 e22; replace e22 : v22 = .int .i64 (k : Int) := e22; subst e22; exact exec_val (c := .pointer (some ⟨b2, off2 + k * 3, none⟩)) (wanted_none rfl) (by go_simp) rfl
          case o7 => intro aR wR hR; replace hR := hR.undrew; intro v23 h23 e23; replace e23 : v23 = .pointer (some ⟨b2, off2 + k * 3, none⟩) := e23; subst e23; (obtain ⟨h1, h2, h3⟩ := CB.out wR (HK.out.tr hR)); exact exec_val (c := .agg #[.int .u8 y.k, .int .i64 y.n, .string y.s]) (wanted_none rfl) (by go_simp) rfl
          case o8 => intro aR wR hR; replace hR := hR.undrew; intro v20 h20 e20; replace e20 : v20 = .agg #[.int .u8 x.k, .int .i64 x.n, .string x.s] := e20; subst e20; intro v24 h24 e24; replace e24 : v24 = .agg #[.int .u8 y.k, .int .i64 y.n, .string y.s] := e24; subst e24; exact exec_val (c := .bool (!q)) (wanted_none rfl) (by go_simp) rfl
        · intro vs wR hR hV
          obtain ⟨e0, e1, e2, e3, e4, e5, e6, e7, e8, -⟩ := hV
          replace e0 : vs 0 = .slice (some ⟨b1, off1, none⟩) n c0 := e0
          replace e1 : vs 1 = .int .i64 (k : Int) := e1
          replace e2 : vs 2 = .pointer (some ⟨b1, off1 + k * 3, none⟩) := e2
          replace e3 : vs 3 = .agg #[.int .u8 x.k, .int .i64 x.n, .string x.s] := e3
          replace e4 : vs 4 = .slice (some ⟨b2, off2, none⟩) n c1 := e4
          replace e5 : vs 5 = .int .i64 (k : Int) := e5
          replace e6 : vs 6 = .pointer (some ⟨b2, off2 + k * 3, none⟩) := e6
          replace e7 : vs 7 = .agg #[.int .u8 y.k, .int .i64 y.n, .string y.s] := e7
          replace e8 : vs 8 = .bool (!q) := e8
          simp only [putAll, e0, e1, e2, e3, e4, e5, e6, e7, e8, Nat.reduceAdd, Nat.zero_add]
          clear e0 e1 e2 e3 e4 e5 e6 e7 e8
          try simp only [List.setIfInBounds_toArray, List.set_cons_succ, List.set_cons_zero]
          cases q
          · have HF := Lib.hid (HBD.out rfl)
            go_wp2_with fail
            go_ret
            exact ⟨by rw [HF.out]; rfl, HK.out.tr hR⟩
          · have HF := Lib.hid (HST.out rfl)
            go_wp2_with fail
            go_roundw
            case rel => exact ⟨k + 1, hlt, by go_num, HF, Lib.hid (HK.out.tr hR)⟩
            case measure => simp [intOf]; omega
      · obtain rfl : k = n := by omega
        go_wp2_with fail
        go_ret
        exact ⟨by rw [HV.out, HX.out]; rfl, HK.out⟩
  · have HV : Hid (sameL a b = false) := Lib.hid (by rw [sameL, decide_eq_false (by rw [← HN.out, ← HM.out]; exact hne)]; rfl)
    have hbb : ((n : Int) != (m : Int)) = true := by simp; omega
    go_enter Try.func21, Try.ntmps21
    go_wp2_with fail
    go_ret
    exact ⟨by rw [HV.out]; rfl, Kp.refl _ _⟩
end Go.Proofs.Ytfacpfogdcefpaa
namespace Go.Proofs.Ytfacpfogdcefpaa
open Go.RowKit Go.Shelf
set_option linter.unusedSimpArgs false
set_option linter.unusedVariables false
set_option maxRecDepth 100000

def difR (a b : List Hd) (i : Nat) : Bool := !sameL (rowA a i) (rowA b i)
/-- The same rows? -/
def sameR (a b : List Hd) : Bool := decide (a.length = b.length) && !upto a.length (difR a b)
theorem sameR_iff {a b : List Hd} : sameR a b = true ↔ a.map (·.row) = b.map (·.row) := by
  rw [sameR, Bool.and_eq_true, decide_eq_true_eq, nupto]
  constructor
  · rintro ⟨h1, h2⟩
    apply List.ext_getElem (by simpa using h1)
    intro i hi hj
    simp only [List.length_map] at hi hj
    have h3 := h2 i hi
    rw [difR, Bool.not_eq_false'] at h3
    have := sameL_iff.1 h3
    rw [rowA_eq a i hi, rowA_eq b i hj] at this
    simpa using this
  · intro h
    have hl : a.length = b.length := by simpa using congrArg List.length h
    refine ⟨hl, fun i hi => ?_⟩
    rw [difR, Bool.not_eq_false']
    have h2 : (a.map (·.row))[i]? = (b.map (·.row))[i]? := by rw [h]
    rw [List.getElem?_map, List.getElem?_map, List.getElem?_eq_getElem hi, List.getElem?_eq_getElem (by omega)] at h2
    simp at h2
    rw [rowA_eq a i hi, rowA_eq b i (by omega), h2]
    exact sameL_self _

theorem tSame1_any (a0 : Option Addr) (c0 n : Nat) (a : List V3) (hn : n = a.length) (b0 : Option Addr) (c1 m : Nat) (b : List V3) (hm : m = b.length) (w : World) (ha : RdV w a0 c0 a) (hb : RdV w b0 c1 b) :
    Calls Try.prog 42 #[.slice a0 n c0, .slice b0 m c1] w fun e w' => e = .returned (.bool (sameL a b)) ∧ Kp [] w w' := by
  have H := Lib.hid (slEqualV_any a0 c0 n a hn b0 c1 m b hm w ha hb)
  clear hn hm ha hb
  go_enter Try.func42, Try.ntmps42
  go_wp2_with fail
  refine H.out.mono ?_
  rintro e w5 ⟨rfl, kp⟩
  go_wp2_with fail
  go_ret
  exact ⟨rfl, kp⟩

set_option maxHeartbeats 800000 in
theorem slEqualF_any (a0 : Option Addr) (c0 n : Nat) (a : List Hd) (hn : n = a.length) (b0 : Option Addr) (c1 m : Nat) (b : List Hd) (hm : m = b.length) (w : World) (ha : RdR w a0 c0 a) (hb : RdR w b0 c1 b) :
    Calls Try.prog 41 #[.slice a0 n c0, .slice b0 m c1, .func (.func 42) #[] #[]] w fun e w' => e = .returned (.bool (sameR a b)) ∧ Kp [] w w' := by
  have HN := Lib.hid hn
  have HM := Lib.hid hm
  have HA := Lib.hid ha
  have HB := Lib.hid hb
  have hcap := ha.1.1
  rw [← hn] at hcap
  have hcap2 := ha.1.2.1
  have heg := enters_of (P := Try.prog) Try.func42 (by kernel_rfl) rfl
  clear hn hm ha hb
  by_cases hne : n = m
  · subst hne
    have HV : Hid (sameR a b = !upto n (difR a b)) := Lib.hid (by rw [sameR, decide_eq_true (by rw [← HN.out, ← HM.out]), ← HN.out]; rfl)
    generalize sameR a b = v at *
    have hbb : ((n : Int) != (n : Int)) = false := by simp
    go_enter Try.func41, Try.ntmps41
    go_wp2_with fail
    go_loopw [7, 8, 9, 17] (fun _ _ _ vi wr => ∃ k : Nat, k ≤ n ∧ vi = .int .i64 k ∧ Hid (upto k (difR a b) = false) ∧ Hid (Kp [] w wr)) (fun _ _ _ vi _ => n - (intOf vi).toNat)
    case atStart => exact ⟨0, Nat.zero_le _, rfl, Lib.hid rfl, Lib.hid (Kp.refl _ _)⟩
    case round =>
      obtain ⟨k, hk, rfl, HX, HK⟩ := hrel
      obtain ⟨wo, rfl⟩ : ∃ wo : World, wo = wr := ⟨_, rfl⟩
      by_cases hlt : k < n
      · obtain ⟨b1, off1, ra, rn, rc, rfl, c1', hr1, hr2⟩ := (HA.out.keep0 HK.out).at' k (by rw [← HN.out]; exact hlt)
        obtain ⟨b2, off2, sa, sn, sc, rfl, c2', hs1, hs2⟩ := (HB.out.keep0 HK.out).at' k (by rw [← HM.out]; exact hlt)
        have HC := Lib.hid (tSame1_any ra rc rn _ hr1 sa sc sn _ hs1 wo hr2 hs2)
        have HST : Hid (sameL (rowA a k) (rowA b k) = true → upto (k + 1) (difR a b) = false) := Lib.hid (fun h => by rw [upto_step, HX.out, difR, h]; rfl)
        have HBD : Hid (sameL (rowA a k) (rowA b k) = false → v = false) := Lib.hid (fun h => by rw [HV.out, upto_yes (k := k) hlt (by rw [difR, h]; rfl)]; rfl)
        generalize sameL (rowA a k) (rowA b k) = q at *
        clear hr1 hr2 hs1 hs2
        go_wp2_with fail
        refine HC.out.mono ?_
        rintro e w5 ⟨rfl, kp⟩
        cases q
        · have HF := Lib.hid (HBD.out rfl)
          go_wp2_with fail
          go_ret
          exact ⟨by rw [HF.out]; rfl, HK.out.tr kp⟩
        · have HF := Lib.hid (HST.out rfl)
          go_wp2_with fail
          go_roundw
          case rel => exact ⟨k + 1, hlt, by go_num, HF, Lib.hid (HK.out.tr kp)⟩
          case measure => simp [intOf]; omega
      · obtain rfl : k = n := by omega
        go_wp2_with fail
        go_ret
        exact ⟨by rw [HV.out, HX.out]; rfl, HK.out⟩
  · have HV : Hid (sameR a b = false) := Lib.hid (by rw [sameR, decide_eq_false (by rw [← HN.out, ← HM.out]; exact hne)]; rfl)
    have hbb : ((n : Int) != (m : Int)) = true := by simp; omega
    go_enter Try.func41, Try.ntmps41
    go_wp2_with fail
    go_ret
    exact ⟨by rw [HV.out]; rfl, Kp.refl _ _⟩
theorem tSame_any (a0 : Option Addr) (c0 n : Nat) (a : List Hd) (hn : n = a.length) (b0 : Option Addr) (c1 m : Nat) (b : List Hd) (hm : m = b.length) (w : World) (ha : RdR w a0 c0 a) (hb : RdR w b0 c1 b) :
    Calls Try.prog 17 #[.slice a0 n c0, .slice b0 m c1] w fun e w' => e = .returned (.bool (sameR a b)) ∧ Kp [] w w' := by
  have H := Lib.hid (slEqualF_any a0 c0 n a hn b0 c1 m b hm w ha hb)
  clear hn hm ha hb
  go_enter Try.func17, Try.ntmps17
  go_wp2_with fail
  refine H.out.mono ?_
  rintro e w5 ⟨rfl, kp⟩
  go_wp2_with fail
  go_ret
  exact ⟨rfl, kp⟩

set_option maxHeartbeats 800000 in
theorem r18Same_any (a0 : Option Addr) (c0 n : Nat) (a : List Hd) (hn : n = a.length) (b0 : Option Addr) (c1 m : Nat) (b : List Hd) (hm : m = b.length) (w : World) (ha : RdR w a0 c0 a) (hb : RdR w b0 c1 b) :
    Calls Try.prog 16 #[.slice a0 n c0, .slice b0 m c1] w fun e w' => e = .returned (.bool (sameR a b)) ∧ Kp [] w w' := by
  have HN := Lib.hid hn
  have HM := Lib.hid hm
  have HA := Lib.hid ha
  have HB := Lib.hid hb
  have hcap := ha.1.1
  rw [← hn] at hcap
  have hcap2 := ha.1.2.1
  clear hn hm ha hb
  by_cases hne : n = m
  · subst hne
    have HV : Hid (sameR a b = !upto n (difR a b)) := Lib.hid (by rw [sameR, decide_eq_true (by rw [← HN.out, ← HM.out]), ← HN.out]; rfl)
    generalize sameR a b = v at *
    have hbb : ((n : Int) != (n : Int)) = false := by simp
    go_enter Try.func16, Try.ntmps16
    go_wp2_with fail
    go_loopw [5] (fun vi wr => ∃ k : Nat, k ≤ n ∧ vi = .int .i64 k ∧ Hid (upto k (difR a b) = false) ∧ Hid (Kp [] w wr)) (fun vi _ => n - (intOf vi).toNat)
    case atStart => exact ⟨0, Nat.zero_le _, rfl, Lib.hid rfl, Lib.hid (Kp.refl _ _)⟩
    case round =>
      obtain ⟨k, hk, rfl, HX, HK⟩ := hrel
      obtain ⟨wo, rfl⟩ : ∃ wo : World, wo = wr := ⟨_, rfl⟩
      by_cases hlt : k < n
      · obtain ⟨b1, off1, ra, rn, rc, rfl, c1', hr1, hr2⟩ := (HA.out.keep0 HK.out).at' k (by rw [← HN.out]; exact hlt)
        obtain ⟨b2, off2, sa, sn, sc, rfl, c2', hs1, hs2⟩ := (HB.out.keep0 HK.out).at' k (by rw [← HM.out]; exact hlt)
        have HC : Hid (∀ W, Kp [] wo W → Calls Try.prog 21 #[.slice ra rn rc, .slice sa sn sc] W fun e w' => e = .returned (.bool (sameL (rowA a k) (rowA b k))) ∧ Kp [] W w') := Lib.hid (fun W hW => r10Same_any ra rc rn _ hr1 sa sc sn _ hs1 W (hr2.keep0 hW) (hs2.keep0 hW))
        have HST : Hid (sameL (rowA a k) (rowA b k) = true → upto (k + 1) (difR a b) = false) := Lib.hid (fun h => by rw [upto_step, HX.out, difR, h]; rfl)
        have HBD : Hid (sameL (rowA a k) (rowA b k) = false → v = false) := Lib.hid (fun h => by rw [HV.out, upto_yes (k := k) hlt (by rw [difR, h]; rfl)]; rfl)
        generalize sameL (rowA a k) (rowA b k) = q at *
        have C1 := Lib.hid c1'
        have C2 := Lib.hid c2'
        clear hr1 hr2 hs1 hs2 c1' c2'
        go_upto_region 6 with (fail)
        refine wp_region_K (by kernel_rfl) [.val (.slice (some ⟨b1, off1, none⟩) n c0), .val (.int .i64 (k : Int)), .val (.pointer (some ⟨b1, off1 + k, none⟩)), .val (.slice ra rn rc), .val (.slice (some ⟨b2, off2, none⟩) n c1), .val (.int .i64 (k : Int)), .val (.pointer (some ⟨b2, off2 + k, none⟩)), .val (.slice sa sn sc), .val (.bool q), .val (.bool (!q))] [[(0, none)], [(5, none)], [(17, some 0), (18, some 1)], [(19, some 2)], [(1, none)], [(5, none)], [(21, some 4), (22, some 5)], [(23, some 6)], [(20, some 3), (24, some 7)], [(25, some 8)]] rfl (by kernel_rfl) ?_ ?_
        · refine ⟨?o0, ?o1, ?o2, ?o3, ?o4, ?o5, ?o6, ?o7, ?o8, ?o9, trivial⟩
          case o0 => intro aR wR hR; replace hR := hR.undrew; intro (h0 : aR.tmps[0]? = some (.slice (some ⟨b1, off1, none⟩) n c0)); exact exec_val (c := .slice (some ⟨b1, off1, none⟩) n c0) (wanted_none rfl) (by go_simp) rfl
          case o1 => intro aR wR hR; replace hR := hR.undrew; intro (h5 : aR.tmps[5]? = some (.int .i64 (k : Int))); exact exec_val (c := .int .i64 (k : Int)) (wanted_none rfl) (by go_simp) rfl
          case o2 => intro aR wR hR; replace hR := hR.undrew; intro v17 h17 e17; replace e17 : v17 = .slice (some ⟨b1, off1, none⟩) n c0 := e17; subst e17; intro v18 h18 e18; replace e18 : v18 = .int .i64 (k : Int) := e18; subst e18; exact exec_val (c := .pointer (some ⟨b1, off1 + k, none⟩)) (wanted_none rfl) (by go_simp) rfl
          case o3 => intro aR wR hR; replace hR := hR.undrew; intro v19 h19 e19; replace e19 : v19 = .pointer (some ⟨b1, off1 + k, none⟩) := e19; subst e19; (have h1 := hR.cell C1.out (by simp)); exact exec_val (c := .slice ra rn rc) (wanted_none rfl) (by go_simp) rfl
          case o4 => intro aR wR hR; replace hR := hR.undrew; intro (h1 : aR.tmps[1]? = some (.slice (some ⟨b2, off2, none⟩) n c1)); exact exec_val (c := .slice (some ⟨b2, off2, none⟩) n c1) (wanted_none rfl) (by go_simp) rfl
          case o5 => intro aR wR hR; replace hR := hR.undrew; intro (h5 : aR.tmps[5]? = some (.int .i64 (k : Int))); exact exec_val (c := .int .i64 (k : Int)) (wanted_none rfl) (by go_simp) rfl
          case o6 => intro aR wR hR; replace hR := hR.undrew; intro v21 h21 e21; replace e21 : v21 = .slice (some ⟨b2, off2, none⟩) n c1 := e21; subst e21; intro v22 h22 e22; replace e22 : v22 = .int .i64 (k : Int) := e22; subst e22; exact exec_val (c := .pointer (some ⟨b2, off2 + k, none⟩)) (wanted_none rfl) (by go_simp) rfl
          case o7 => intro aR wR hR; replace hR := hR.undrew; intro v23 h23 e23; replace e23 : v23 = .pointer (some ⟨b2, off2 + k, none⟩) := e23; subst e23; (have h1 := hR.cell C2.out (by simp)); exact exec_val (c := .slice sa sn sc) (wanted_none rfl) (by go_simp) rfl
          case o8 => intro aR wR hR; replace hR := hR.undrew; intro v20 h20 e20; replace e20 : v20 = .slice ra rn rc := e20; subst e20; intro v24 h24 e24; replace e24 : v24 = .slice sa sn sc := e24; subst e24; refine exec_call (wanted_none rfl) (by go_simp; exact ⟨rfl, rfl⟩) ?_; refine (HC.out wR hR).mono ?_; rintro e7 w8 ⟨rfl, kp8⟩; exact ⟨_, rfl, rfl, kp8⟩
          case o9 => intro aR wR hR; replace hR := hR.undrew; intro v25 h25 e25; replace e25 : v25 = .bool q := e25; subst e25; exact exec_val (c := .bool (!q)) (wanted_none rfl) (by go_simp) rfl
        · intro vs wR hR hV
          obtain ⟨e0, e1, e2, e3, e4, e5, e6, e7, e8, e9, -⟩ := hV
          replace e0 : vs 0 = .slice (some ⟨b1, off1, none⟩) n c0 := e0
          replace e1 : vs 1 = .int .i64 (k : Int) := e1
          replace e2 : vs 2 = .pointer (some ⟨b1, off1 + k, none⟩) := e2
          replace e3 : vs 3 = .slice ra rn rc := e3
          replace e4 : vs 4 = .slice (some ⟨b2, off2, none⟩) n c1 := e4
          replace e5 : vs 5 = .int .i64 (k : Int) := e5
          replace e6 : vs 6 = .pointer (some ⟨b2, off2 + k, none⟩) := e6
          replace e7 : vs 7 = .slice sa sn sc := e7
          replace e8 : vs 8 = .bool q := e8
          replace e9 : vs 9 = .bool (!q) := e9
          simp only [putAll, e0, e1, e2, e3, e4, e5, e6, e7, e8, e9, Nat.reduceAdd, Nat.zero_add]
          clear e0 e1 e2 e3 e4 e5 e6 e7 e8 e9
          try simp only [List.setIfInBounds_toArray, List.set_cons_succ, List.set_cons_zero]
          cases q
          · have HF := Lib.hid (HBD.out rfl)
            go_wp2_with fail
            go_ret
            exact ⟨by rw [HF.out]; rfl, HK.out.tr hR⟩
          · have HF := Lib.hid (HST.out rfl)
            go_wp2_with fail
            go_roundw
            case rel => exact ⟨k + 1, hlt, by go_num, HF, Lib.hid (HK.out.tr hR)⟩
            case measure => simp [intOf]; omega
      · obtain rfl : k = n := by omega
        go_wp2_with fail
        go_ret
        exact ⟨by rw [HV.out, HX.out]; rfl, HK.out⟩
  · have HV : Hid (sameR a b = false) := Lib.hid (by rw [sameR, decide_eq_false (by rw [← HN.out, ← HM.out]; exact hne)]; rfl)
    have hbb : ((n : Int) != (m : Int)) = true := by simp; omega
    go_enter Try.func16, Try.ntmps16
    go_wp2_with fail
    go_ret
    exact ⟨by rw [HV.out]; rfl, Kp.refl _ _⟩
end Go.Proofs.Ytfacpfogdcefpaa
namespace Go.Proofs.Ytfacpfogdcefpaa
open Go.RowKit
set_option linter.unusedSimpArgs false
set_option linter.unusedVariables false
set_option maxRecDepth 100000

theorem infoRow : (Try.prog.info? 36).map (fun i => (i.zero, i.size, i.bytes)) = some (some (.slice none 0 0), 1, 24) := by kernel_rfl
theorem infoVal : (Try.prog.info? 38).map (fun i => (i.zero, i.size, i.bytes)) = some (some (.agg #[.int .u8 0, .int .i64 0, .string ⟨#[]⟩]), 3, 32) := by kernel_rfl
theorem vlies : Lies vcells 3 := ⟨fun _ => rfl, fun x v hv => by simp [vcells] at hv; rcases hv with rfl | rfl | rfl <;> rfl, by omega⟩
def noRow : Hd := ⟨none, 0, 0, []⟩
def noVal : V3 := ⟨0, 0, ⟨#[]⟩⟩

section
variable {P : Program}
theorem copy_S (w : World) (dT sT ty elem : TypeId) (sz : Nat) (g dLen dCap : Nat) (a : Addr) (sLen sCap k : Nat) (cur : Array Value) (t : TypeId) (cs : List Value)
    (hu : P.underlying dT = some (.slice elem)) (hs : (P.info? elem).map (·.size) = some sz)
    (hg : w.heap[g]? = some (.cells cur t (0, 0))) (hk : k = Nat.min sLen dLen) (hn : cs.length = k * sz)
    (hsrc : ∀ j v, cs[j]? = some v → w.cell? (a.add j) = some v) (hfit : cs.length ≤ cur.size) (h1 : ∀ v ∈ cs, v.oneCell' = true) :
    (Builtin.copy_ #[dT, sT] ty #[.slice (some ⟨g, 0, none⟩) dLen dCap, .slice (some a) sLen sCap]).run P w =
      .ok (goInt k) (w.setRow g (cs ++ cur.toList.drop cs.length).toArray) := by
  have hl := run_loadCells_list (P := P) w a cs hsrc
  have hst := run_storeCells_at P g 0 t cs 0 cur w hg (by simpa using hfit) h1
  cases hq : P.info? elem with
  | none => simp [hq] at hs
  | some i =>
    have hi : i.size = sz := by simpa [hq] using hs
    have hl2 : (loadCells a (k * sz)).run P w = .ok cs.toArray w := by rw [← hn]; exact hl
    simp [Builtin.copy_, run_underlying hu, Builtin.lenOf, Builtin.firstCells, sizeOf, typeInfo, hq, hi, ← hk, hl2, hst]
end
theorem copy_none3 {P : Program} (w : World) (dT sT ty elem : TypeId) (d a : Option Addr) (dLen dCap sLen sCap : Nat) (hu : P.underlying dT = some (.slice elem)) (hs : ((P.info? elem).map (·.size)).isSome = true) (hn : Nat.min sLen dLen = 0) :
    (Builtin.copy_ #[dT, sT] ty #[.slice d dLen dCap, .slice a sLen sCap]).run P w = .ok (goInt 0) w := by
  cases hq : P.info? elem with
  | none => simp [hq] at hs
  | some i =>
    have hl : ∀ (x : Addr), (loadCells x 0).run P w = .ok #[] w := fun x => by simpa using run_loadCells_list (P := P) w x [] (by simp)
    cases d <;> cases a <;> simp [Builtin.copy_, run_underlying hu, Builtin.lenOf, Builtin.firstCells, sizeOf, typeInfo, hq, hn, storeCells, hl]
/-- copy over a whole new row of values. -/
theorem copy_vals (w : World) (t ty : TypeId) (q n m sl cap : Nat) (ad : Option Addr) (r : List V3) (ht : Try.prog.underlying t = some (.slice 38))
    (cs : Array Value) (hq : w.heap[q]? = some (.cells cs 38)) (hcs : cs.size = n * 3) (hz : r.length = n) (hsl : sl = n) (hr : RdV w ad cap r) :
    ∃ w', (Builtin.copy_ #[t, t] ty #[.slice (some ⟨q, 0, none⟩) n m, .slice ad sl cap]).run Try.prog w = .ok (.int .i64 n) w' ∧ w'.heap[q]? = some (.cells (r.flatMap vcells).toArray 38) ∧ Kp [q] w w' ∧ w'.heap.size = w.heap.size := by
  subst hsl
  obtain ⟨i, h1, h2, h3, h4⟩ := info_parts infoVal
  by_cases h0 : sl = 0
  · subst h0
    obtain rfl : r = [] := List.eq_nil_of_length_eq_zero hz
    obtain rfl : cs = #[] := Array.eq_empty_of_size_eq_zero (by omega)
    refine ⟨w, ?_, by simpa using hq, Kp.refl _ _, rfl⟩
    have := copy_none3 (P := Try.prog) w t t ty 38 (some ⟨q, 0, none⟩) ad 0 m 0 cap ht (by rw [h1]; rfl) (by simp)
    exact this
  · obtain ⟨b, off, rfl, -⟩ := hr.at' 0 (by omega)
    have hg : goInt (sl : Int) = .int .i64 sl := by rw [goInt]
    have hr2 := copy_S (P := Try.prog) w t t ty 38 3 q sl m ⟨b, off, none⟩ sl cap sl cs 38 (r.flatMap vcells) ht (by rw [h1]; simp [h3]) hq (by simp) (by rw [flat_length vlies.len, hz]) (fun j v hj => by
      have hjl : j < r.length * 3 := by rw [← flat_length vlies.len r]; exact (List.getElem?_eq_some_iff.1 hj).1
      have hi : j / 3 < r.length := by omega
      obtain ⟨b', off', hab, hc⟩ := hr.2.2 (j / 3) hi
      cases hab
      have h5 := hc (j % 3) (by omega)
      have h6 := flat_get vlies.len r (j / 3) (j % 3) hi (by omega)
      rw [show j / 3 * 3 + j % 3 = j by omega, hj] at h6
      rw [← h6, show off + j / 3 * 3 + j % 3 = off + j by omega] at h5
      rw [Addr.add_lit]; exact h5) (by rw [flat_length vlies.len, hz, hcs]; exact Nat.le_refl _) (fun v hv => by obtain ⟨x, -, hx⟩ := List.mem_flatMap.1 hv; exact vlies.one x v hx)
    rw [hg] at hr2
    refine ⟨_, hr2, ?_, ?_, by simp⟩
    · rw [setRow_heap w q _ _ _ _ hq]
      congr 2
      rw [List.drop_of_length_le (by rw [flat_length vlies.len, hz, Array.length_toList, hcs]; exact Nat.le_refl _), List.append_nil]
    · exact ⟨rfl, rfl, rfl, by simp, fun k hk hn => setRow_other w q k _ (by simpa using hn)⟩
theorem made_S {α : Type} (f : α → List Value) (sz : Nat) (x : α) (z : Value) (hz : z.cells = (f x).toArray) (hl : (f x).length = sz) (h0 : 0 < sz) (n : Nat) : madeCells z.cells (n * sz) = ((List.replicate n x).flatMap f).toArray := by
  rw [hz]
  apply Array.toList_inj.1
  apply List.ext_getElem?
  intro j
  simp only [madeCells, Array.toList_map, Array.toList_range, List.getElem?_map, List.size_toArray, hl]
  by_cases hj : j < n * sz
  · have hi : j / sz < n := Nat.div_lt_of_lt_mul (by rw [Nat.mul_comm]; exact hj)
    have hm : j % sz < sz := Nat.mod_lt _ h0
    have h6 := flat_get (f := fun _ : α => f x) (fun _ => hl) (List.replicate n x) (j / sz) (j % sz) (by simpa using hi) hm
    have e : (List.replicate n x).flatMap f = (List.replicate n x).flatMap (fun _ => f x) := by
      rw [List.flatMap_replicate, List.flatMap_replicate]
    have hdm : j / sz * sz + j % sz = j := by rw [Nat.mul_comm]; exact Nat.div_add_mod j sz
    rw [hdm] at h6
    rw [e, h6, List.getElem?_range hj]
    simp [hl, hm]
  · rw [List.getElem?_eq_none (by simpa using hj), List.getElem?_eq_none (by
      rw [List.flatMap_replicate]; simp [hl]; omega)]
    rfl
theorem make_vals (w : World) (n : Nat) (hn : n ≤ 1000000) :
    (Instr.makeSlice 36 (.int .i64 n) (.int .i64 n)).run Try.prog w = .ok (.slice (some ⟨w.heap.size, 0, none⟩) n n) (w.alloc (.cells ((List.replicate n noVal).flatMap vcells).toArray 38)) := by
  obtain ⟨i, h1, h2, h3, h4⟩ := info_parts infoVal
  have := run_make (P := Try.prog) w 36 38 i _ Try.underlying36 h1 h2 .i64 .i64 n n (by omega) (by omega) (by rw [h4]; omega) (by omega)
  rw [this, h3, ← made_S vcells 3 noVal (.agg #[.int .u8 0, .int .i64 0, .string ⟨#[]⟩]) (by simp [Value.cells, vcells, noVal]) rfl (by omega) n]
  simp
theorem make_rows (w : World) (n : Nat) (hn : n ≤ 1000000) :
    (Instr.makeSlice 27 (.int .i64 n) (.int .i64 n)).run Try.prog w = .ok (.slice (some ⟨w.heap.size, 0, none⟩) n n) (w.alloc (.cells ((List.replicate n noRow).flatMap hcells).toArray 36)) := by
  obtain ⟨i, h1, h2, h3, h4⟩ := info_parts infoRow
  have := run_make (P := Try.prog) w 27 36 i _ Try.underlying27 h1 h2 .i64 .i64 n n (by omega) (by omega) (by rw [h4]; omega) (by omega)
  rw [this, h3, ← made_S hcells 1 noRow (.slice none 0 0) (by simp [Value.cells, hcells, noRow]) rfl (by omega) n]
  simp
theorem flat_hcells (l : List Hd) : l.flatMap hcells = l.map Hd.v := by
  induction l with
  | nil => rfl
  | cons x l ih => rw [List.flatMap_cons, ih]; rfl
theorem dat_of {w : World} {g : Nat} {t : TypeId} {l : List Hd} (h : w.heap[g]? = some (.cells (l.flatMap hcells).toArray t)) : Dat w g l :=
  ⟨_, t, h, by rw [flat_hcells]; simp, fun i hi => by rw [flat_hcells]; simp [hi]⟩
end Go.Proofs.Ytfacpfogdcefpaa
namespace Go.Proofs.Ytfacpfogdcefpaa
open Go.RowKit
set_option linter.unusedSimpArgs false
set_option linter.unusedVariables false
set_option maxRecDepth 100000

/-- A row in a block of its own, whole. -/
def OwnRow (w : World) (base : Nat) (h : Hd) : Prop := ∃ q, h.ad = some ⟨q, 0, none⟩ ∧ h.n = h.row.length ∧ h.cap = h.row.length ∧ base ≤ q ∧ w.heap[q]? = some (.cells (h.row.flatMap vcells).toArray 38) ∧ h.row.length ≤ 1000000
def blk (h : Hd) : Nat := (h.ad.map (·.block)).getD 0
theorem OwnRow.blk_ge {w : World} {base : Nat} {h : Hd} (o : OwnRow w base h) : base ≤ blk h ∧ blk h < w.heap.size := by
  obtain ⟨q, h1, -, -, h2, h3, -⟩ := o
  unfold blk
  rw [h1]
  exact ⟨h2, lt_of_heap h3⟩
theorem OwnRow.keep {w w' : World} {base : Nat} {h : Hd} (o : OwnRow w base h) {S : List Nat} (k : Kp S w w') (hS : blk h ∉ S) : OwnRow w' base h := by
  obtain ⟨q, h1, h2, h3, h4, h5, h6⟩ := o
  refine ⟨q, h1, h2, h3, h4, k.get h5 (fun hm => hS ?_), h6⟩
  unfold blk; rw [h1]; exact hm
theorem OwnRow.keep0 {w w' : World} {base : Nat} {h : Hd} (o : OwnRow w base h) (k : Kp [] w w') : OwnRow w' base h := o.keep k (by simp)
theorem OwnRow.mono {w : World} {base base' : Nat} {h : Hd} (o : OwnRow w base h) (hb : base' ≤ base) : OwnRow w base' h :=
  let ⟨q, h1, h2, h3, h4, h5⟩ := o; ⟨q, h1, h2, h3, Nat.le_trans hb h4, h5⟩
theorem OwnRow.ok {w : World} {base : Nat} {h : Hd} (o : OwnRow w base h) : HdOk w h := by
  obtain ⟨q, h1, h2, h3, h4, h5, h6⟩ := o
  refine ⟨h2, ?_⟩
  unfold RdV
  rw [h1]
  refine ⟨by omega, by omega, fun i hi => ⟨q, 0, rfl, fun j hj => ?_⟩⟩
  rw [Nat.zero_add, cell_of_row w q _ _ _ _ h5]
  have := flat_get vlies.len h.row i j hi hj
  simpa using this

/-- What Copy comes to. -/
def CopyPost (w : World) (hs : List Hd) (e : Ending) (w' : World) : Prop :=
  ∃ g cs, e = .returned (.slice (some ⟨g, 0, none⟩) hs.length hs.length) ∧ w.heap.size ≤ g ∧ Dat w' g cs ∧ cs.map (·.row) = hs.map (·.row) ∧ (∀ h ∈ cs, OwnRow w' (g + 1) h) ∧ (cs.map blk).Nodup ∧ Kp [] w w'

theorem takeR {hs : List Hd} {i : Nat} (h : i < hs.length) : (hs.take (i + 1)).map (·.row) = (hs.take i).map (·.row) ++ [rowA hs i] := by
  rw [List.take_succ_eq_append_getElem h, List.map_append, rowA_eq hs i h]; rfl

set_option maxHeartbeats 1600000 in
theorem tCopy_any (ra : Option Addr) (rc m : Nat) (hs : List Hd) (hm : m = hs.length) (w : World) (hr : RdR w ra rc hs) (hmb : m ≤ 1000000) (hrb : ∀ h ∈ hs, h.row.length ≤ 1000000) :
    Calls Try.prog 19 #[.slice ra m rc] w (CopyPost w hs) := by
  have HR := Lib.hid hr
  have HM := Lib.hid hm
  have HRB := Lib.hid hrb
  have hmk : ∀ wx : World, _ := fun wx => make_rows wx m hmb
  clear hr hm hrb
  go_enter Try.func19, Try.ntmps19
  go_wp2_with fail
  obtain ⟨g, hg⟩ : ∃ g, g = w.heap.size := ⟨_, rfl⟩
  have hD0 := dat_of (heap_alloc_at (w := w) (o := .cells ((List.replicate m noRow).flatMap hcells).toArray 36) rfl)
  have kp0 : Kp [] w (w.alloc (.cells ((List.replicate m noRow).flatMap hcells).toArray 36)) := (Kp.refl [] w).alloc _
  generalize w.alloc (.cells ((List.replicate m noRow).flatMap hcells).toArray 36) = w1 at *
  rw [← hg] at hD0 ⊢
  have HG := Lib.hid hg
  have HD0 := Lib.hid hD0
  have HK0 := Lib.hid kp0
  clear hg hmk hD0 kp0
  go_loopw [4, 10] (fun _ vi wr => ∃ (k : Nat) (D : List Hd), k ≤ m ∧ vi = .int .i64 k ∧ Hid (D.length = k) ∧ Hid (Dat wr g (D ++ List.replicate (m - k) noRow)) ∧ Hid (D.map (·.row) = (hs.take k).map (·.row)) ∧ Hid (∀ h ∈ D, OwnRow wr (g + 1) h) ∧ Hid ((D.map blk).Nodup) ∧ Hid (Kp [] w wr)) (fun _ vi _ => m - (intOf vi).toNat)
  case atStart => exact ⟨0, [], Nat.zero_le _, rfl, Lib.hid rfl, HD0, Lib.hid rfl, Lib.hid (by simp), Lib.hid (by simp), HK0⟩
  case round =>
    obtain ⟨k, D, hk, rfl, HDL, HD, HDR, HOW, HND, HK⟩ := hrel
    obtain ⟨wo, rfl⟩ : ∃ wo : World, wo = wr := ⟨_, rfl⟩
    by_cases hlt : k < m
    · obtain ⟨b, off, xa, xn, xc, rfl, c0, hxn, hxr⟩ := HR.out.at' k (by rw [← HM.out]; exact hlt)
      have CB := Lib.hid c0
      replace c0 := HK.out.cell c0 (by simp)
      have hxb : xn ≤ 1000000 := by rw [hxn, rowA_eq hs k (by rw [← HM.out]; exact hlt)]; exact HRB.out _ (List.getElem_mem _)
      have HTK : Hid ((hs.take (k + 1)).map (·.row) = (hs.take k).map (·.row) ++ [rowA hs k]) := Lib.hid (takeR (by rw [← HM.out]; exact hlt))
      generalize rowA hs k = r at *
      have HXN := Lib.hid hxn
      have HXR := Lib.hid hxr
      have C0 := Lib.hid c0
      have hmk : ∀ wx : World, _ := fun wx => make_vals wx xn hxb
      have hrep : List.replicate (m - k) noRow = noRow :: List.replicate (m - (k + 1)) noRow := by rw [show m - k = (m - (k + 1)) + 1 by omega]; rfl
      have hgw := HD.out.lt
      have hdk := HD.out.at (Q := D) (Z := List.replicate (m - (k + 1)) noRow) (x := noRow) (by rw [hrep]) HDL.out
      have d0 := hdk.1
      have f0 := hdk.2
      dsimp only [noRow] at d0
      have e0 : (wo.alloc (.cells ((List.replicate xn noVal).flatMap vcells).toArray 38)).cell? ⟨g, k, none⟩ = some (.slice none 0 0) := cell_alloc d0
      have e1 : (wo.alloc (.cells ((List.replicate xn noVal).flatMap vcells).toArray 38)).frozen? ⟨g, k, none⟩ = false := ((HD.out.keep0 ((Kp.refl [] wo).alloc _)).at (Q := D) (Z := List.replicate (m - (k + 1)) noRow) (x := noRow) (by rw [hrep]) HDL.out).2
      have HREP := Lib.hid hrep
      clear hxn hxr hdk hrep
      go_upto_region 6 with (fail)
      obtain ⟨q, hq⟩ : ∃ q, q = wo.heap.size := ⟨_, rfl⟩
      have hqz : ((wo.setCell ⟨g, k, none⟩ (.slice (some ⟨wo.heap.size, 0, none⟩) xn xn)).alloc (.cells ((List.replicate xn noVal).flatMap vcells).toArray 38)).heap[wo.heap.size]? = some (.cells ((List.replicate xn noVal).flatMap vcells).toArray 38) := heap_alloc_at (by simp)
      have hD6 : Dat ((wo.setCell ⟨g, k, none⟩ (.slice (some ⟨wo.heap.size, 0, none⟩) xn xn)).alloc (.cells ((List.replicate xn noVal).flatMap vcells).toArray 38)) g (D ++ ⟨some ⟨wo.heap.size, 0, none⟩, xn, xn, r⟩ :: List.replicate (m - (k + 1)) noRow) :=
        (HD.out.put (Q := D) (Z := List.replicate (m - (k + 1)) noRow) (x := noRow) (by rw [HREP.out]) HDL.out ⟨some ⟨wo.heap.size, 0, none⟩, xn, xn, r⟩).keep0 ((Kp.refl [] _).alloc _)
      have kp6 : Kp [g] wo ((wo.setCell ⟨g, k, none⟩ (.slice (some ⟨wo.heap.size, 0, none⟩) xn xn)).alloc (.cells ((List.replicate xn noVal).flatMap vcells).toArray 38)) := (kp_set (Kp.refl [g] wo) k _).alloc _
      rw [← hq] at hqz hD6 kp6 ⊢
      generalize ((wo.setCell ⟨g, k, none⟩ (.slice (some ⟨q, 0, none⟩) xn xn)).alloc (.cells ((List.replicate xn noVal).flatMap vcells).toArray 38)) = w6 at *
      have hgq : g < q := by rw [hq]; exact hgw
      have HKW := Lib.hid (show Kp [] w w6 from HK.out.trans kp6 (by simp) (by intro x hx; simp at hx; rw [hx, HG.out]; exact .inr (Nat.le_refl _)))
      have hbq : b < q := by have h1 := World.block_lt_of_cell? w _ CB.out; have h2 := HK.out.size; rw [hq]; exact Nat.lt_of_lt_of_le h1 h2
      have hwq : w.heap.size ≤ q := by rw [hq]; exact HK.out.size
      have HQZ := Lib.hid hqz
      have HD6 := Lib.hid hD6
      have HK6 := Lib.hid kp6
      have HQ := Lib.hid hq
      have hg6 := (hD6.at (Q := D) (Z := List.replicate (m - (k + 1)) noRow) (x := ⟨some ⟨q, 0, none⟩, xn, xn, r⟩) rfl HDL.out).1
      have hb6 := HKW.out.cell CB.out (by simp)
      have HG6 := Lib.hid hg6
      have HB6 := Lib.hid hb6
      have hpx : ∀ x, xa = some x → r ≠ [] → x.block ≠ q := fun x hx hne => by have := (HXR.out.lt) x hx hne; omega
      have HPX := Lib.hid hpx
      clear hqz hD6 kp6 hq hg6 hb6 hpx c0 d0 f0 e0 e1 hmk
      refine wp_region_HS (by kernel_rfl) [q] [.val (.slice (some ⟨g, 0, none⟩) m m), .val (.int .i64 (k : Int)), .val (.pointer (some ⟨g, k, none⟩)), .val (.slice (some ⟨q, 0, none⟩) xn xn), .val (.slice (some ⟨b, off, none⟩) m rc), .val (.int .i64 (k : Int)), .val (.pointer (some ⟨b, off + k, none⟩)), .val (.slice xa xn xc), .val (.int .i64 (xn : Int))] [[(3, none)], [(4, none)], [(22, some 0), (23, some 1)], [(24, some 2)], [(0, none)], [(4, none)], [(26, some 4), (27, some 5)], [(28, some 6)], [(25, some 3), (29, some 7)]] [8] (fun m wx => wx.heap[q]? = some (.cells (if m = 0 then ((List.replicate xn noVal).flatMap vcells).toArray else (r.flatMap vcells).toArray) 38)) 9 rfl (by kernel_rfl) (by kernel_rfl) (by kernel_rfl) (by kernel_rfl) (by kernel_rfl) (by simp) (fun _ _ _ h k => k.get h (by simp)) (HQZ.out) ?_ ?_
      · refine (ObH.free rfl ?o0 (ObH.free rfl ?o1 (ObH.free rfl ?o2 (ObH.free rfl ?o3 (ObH.free rfl ?o4 (ObH.free rfl ?o5 (ObH.free rfl ?o6 (ObH.free rfl ?o7 (ObH.chain 0 rfl ?o8 trivial)))))))))
        case o0 => intro aR wR mR hbd hR hI; replace hR := hR.undrew; intro (h3 : aR.tmps[3]? = some (.slice (some ⟨g, 0, none⟩) m m)); exact exec_val (c := .slice (some ⟨g, 0, none⟩) m m) (wanted_none rfl) (by go_simp) rfl
        case o1 => intro aR wR mR hbd hR hI; replace hR := hR.undrew; intro (h4 : aR.tmps[4]? = some (.int .i64 (k : Int))); exact exec_val (c := .int .i64 (k : Int)) (wanted_none rfl) (by go_simp) rfl
        case o2 => intro aR wR mR hbd hR hI; replace hR := hR.undrew; intro v22 h22 e22; replace e22 : v22 = .slice (some ⟨g, 0, none⟩) m m := e22; subst e22; intro v23 h23 e23; replace e23 : v23 = .int .i64 (k : Int) := e23; subst e23; exact exec_val (c := .pointer (some ⟨g, k, none⟩)) (wanted_none rfl) (by go_simp) rfl
        case o3 => intro aR wR mR hbd hR hI; replace hR := hR.undrew; intro v24 h24 e24; replace e24 : v24 = .pointer (some ⟨g, k, none⟩) := e24; subst e24; (have hcc := hR.cell HG6.out (by simp; omega)); exact exec_val (c := .slice (some ⟨q, 0, none⟩) xn xn) (wanted_none rfl) (by go_simp) rfl
        case o4 => intro aR wR mR hbd hR hI; replace hR := hR.undrew; intro (h0 : aR.tmps[0]? = some (.slice (some ⟨b, off, none⟩) m rc)); exact exec_val (c := .slice (some ⟨b, off, none⟩) m rc) (wanted_none rfl) (by go_simp) rfl
        case o5 => intro aR wR mR hbd hR hI; replace hR := hR.undrew; intro (h4 : aR.tmps[4]? = some (.int .i64 (k : Int))); exact exec_val (c := .int .i64 (k : Int)) (wanted_none rfl) (by go_simp) rfl
        case o6 => intro aR wR mR hbd hR hI; replace hR := hR.undrew; intro v26 h26 e26; replace e26 : v26 = .slice (some ⟨b, off, none⟩) m rc := e26; subst e26; intro v27 h27 e27; replace e27 : v27 = .int .i64 (k : Int) := e27; subst e27; exact exec_val (c := .pointer (some ⟨b, off + k, none⟩)) (wanted_none rfl) (by go_simp) rfl
        case o7 => intro aR wR mR hbd hR hI; replace hR := hR.undrew; intro v28 h28 e28; replace e28 : v28 = .pointer (some ⟨b, off + k, none⟩) := e28; subst e28; (have hcc := hR.cell HB6.out (by simp; omega)); exact exec_val (c := .slice xa xn xc) (wanted_none rfl) (by go_simp) rfl
        case o8 => intro aR wR hR hI; replace hR := hR.undrew; intro v25 h25 e25; replace e25 : v25 = .slice (some ⟨q, 0, none⟩) xn xn := e25; subst e25; intro v29 h29 e29; replace e29 : v29 = .slice xa xn xc := e29; subst e29; obtain ⟨w7, h7, h8, h9, -⟩ := copy_vals wR 36 3 q xn xn xn xc xa r Try.underlying36 _ hI (by simp [vlies.len, flat_length vlies.len]) HXN.out.symm rfl ((HXR.out.keep0 HKW.out).keep hR (fun x hx hne hm => HPX.out x hx hne (by simpa using hm))); exact exec_doS (w' := w7) (wanted_none rfl) (by go_simp) rfl ⟨h9, h8⟩
      · intro vs wR hR hI hV
        obtain ⟨e0, e1, e2, e3, e4, e5, e6, e7, e8, -⟩ := hV
        replace e0 : vs 0 = .slice (some ⟨g, 0, none⟩) m m := e0
        replace e1 : vs 1 = .int .i64 (k : Int) := e1
        replace e2 : vs 2 = .pointer (some ⟨g, k, none⟩) := e2
        replace e3 : vs 3 = .slice (some ⟨q, 0, none⟩) xn xn := e3
        replace e4 : vs 4 = .slice (some ⟨b, off, none⟩) m rc := e4
        replace e5 : vs 5 = .int .i64 (k : Int) := e5
        replace e6 : vs 6 = .pointer (some ⟨b, off + k, none⟩) := e6
        replace e7 : vs 7 = .slice xa xn xc := e7
        replace e8 : vs 8 = .int .i64 (xn : Int) := e8
        simp only [putAll, List.take_succ_cons, List.take_zero, List.drop_succ_cons, List.drop_zero, e0, e1, e2, e3, e4, e5, e6, e7, e8, Nat.reduceAdd, Nat.zero_add]
        clear e0 e1 e2 e3 e4 e5 e6 e7 e8
        try simp only [List.setIfInBounds_toArray, List.set_cons_succ, List.set_cons_zero]
        refine wpList_nil ?_
        have hI' : wR.heap[q]? = some (.cells (r.flatMap vcells).toArray 38) := hI
        have HI := Lib.hid hI'
        clear hI hI'
        go_wp2_with fail
        go_roundw
        case rel =>
          refine ⟨k + 1, D ++ [⟨some ⟨q, 0, none⟩, xn, xn, r⟩], hlt, by go_num, Lib.hid (by have := HDL.out; simp; omega), Lib.hid ?_, Lib.hid ?_, Lib.hid ?_, Lib.hid ?_, Lib.hid (HKW.out.trans hR (by simp) (by intro x hx; simp at hx; omega))⟩
          · have := HD6.out.keep hR (by simp; omega)
            simpa using this
          · rw [HTK.out, ← HDR.out, List.map_append]; rfl
          · intro h hh
            rcases List.mem_append.1 hh with hh | hh
            · have ho := HOW.out h hh
              have hb := ho.blk_ge
              have hq := HQ.out
              exact (ho.keep HK6.out (by simp; omega)).keep hR (by simp; omega)
            · simp at hh
              subst hh
              exact ⟨q, rfl, HXN.out, HXN.out, by omega, HI.out, by show r.length ≤ 1000000; have := HXN.out; omega⟩
          · rw [List.map_append, List.nodup_append]
            refine ⟨HND.out, by simp, fun x hx y hy => ?_⟩
            obtain ⟨h, hh, rfl⟩ := List.mem_map.1 hx
            have hb := (HOW.out h hh).blk_ge
            have hq := HQ.out
            simp [blk] at hy
            omega
        case measure => simp [intOf]; omega
    · obtain rfl : k = m := by omega
      go_wp2_with fail
      go_ret
      refine ⟨g, D, by rw [← HM.out]; rfl, by rw [HG.out]; exact Nat.le_refl _, by have := HD.out; simpa using this, ?_, HOW.out, HND.out, HK.out⟩
      have := HDR.out
      rw [this, HM.out, List.take_length]
end Go.Proofs.Ytfacpfogdcefpaa
namespace Go.Proofs.Ytfacpfogdcefpaa
open Go.RowKit
set_option linter.unusedSimpArgs false
set_option linter.unusedVariables false
set_option maxRecDepth 100000

/-- A row of memory at or beyond base. -/
def HdNew (w : World) (base : Nat) (h : Hd) : Prop := HdOk w h ∧ ∀ x, h.ad = some x → h.row ≠ [] → base ≤ x.block
theorem HdNew.keep {w w' : World} {base : Nat} {h : Hd} (o : HdNew w base h) {S : List Nat} (k : Kp S w w') (hS : ∀ x, h.ad = some x → h.row ≠ [] → x.block ∉ S) : HdNew w' base h := ⟨⟨o.1.1, o.1.2.keep k hS⟩, o.2⟩
theorem HdNew.keep0 {w w' : World} {base : Nat} {h : Hd} (o : HdNew w base h) (k : Kp [] w w') : HdNew w' base h := o.keep k (by simp)
/-- Rows that lie apart from the slice of rows. -/
def OwnR (w : World) (base : Nat) (ad : Option Addr) (cap : Nat) (cs : List Hd) : Prop := OwnS hcells 1 w base 36 ad cap cs ∧ ∀ h ∈ cs, HdNew w base h ∧ ∀ x, h.ad = some x → h.row ≠ [] → x.block ∉ ob ad cap
theorem OwnR.rd {w : World} {base : Nat} {ad : Option Addr} {cap : Nat} {cs : List Hd} (h : OwnR w base ad cap cs) : RdR w ad cap cs := ⟨h.1.rd hlies, fun x hx => (h.2 x hx).1.1⟩
theorem OwnR.keep {w w' : World} {base : Nat} {ad : Option Addr} {cap : Nat} {cs : List Hd} (h : OwnR w base ad cap cs) {S : List Nat} (k : Kp S w w') (hS : ∀ x, x ∈ S → x < base) : OwnR w' base ad cap cs :=
  ⟨h.1.keep k (fun b hb hs => by have := (h.1.ob_ge b hb).1; have := hS b hs; omega), fun y hy => ⟨(h.2 y hy).1.keep k (fun x hx hne hs => by have := (h.2 y hy).1.2 x hx hne; have := hS _ hs; omega), (h.2 y hy).2⟩⟩
theorem OwnR.keep0 {w w' : World} {base : Nat} {ad : Option Addr} {cap : Nat} {cs : List Hd} (h : OwnR w base ad cap cs) (k : Kp [] w w') : OwnR w' base ad cap cs := h.keep k (by simp)
theorem OwnR.nil (w : World) (base : Nat) : OwnR w base none 0 [] := ⟨OwnS.nil _ _ _ _ _, by simp⟩

/-- What the document's Copy comes to. -/
def RCopyPost (w : World) (hs : List Hd) (e : Ending) (w' : World) : Prop :=
  ∃ ad cap cs, e = .returned (.slice ad hs.length cap) ∧ OwnR w' w.heap.size ad cap cs ∧ cs.map (·.row) = hs.map (·.row) ∧ Kp [] w w'

set_option maxHeartbeats 1600000 in
theorem r18Copy_any (ra : Option Addr) (rc m : Nat) (hs : List Hd) (hm : m = hs.length) (w : World) (hr : RdR w ra rc hs) (hmb : m ≤ 1000000) (hrb : ∀ h ∈ hs, h.row.length ≤ 1000000) :
    Calls Try.prog 11 #[.slice ra m rc] w (RCopyPost w hs) := by
  have HR := Lib.hid hr
  have HM := Lib.hid hm
  have HRB := Lib.hid hrb
  clear hr hm hrb
  go_enter Try.func11, Try.ntmps11
  go_wp2_with fail
  go_loopw [3, 4] (fun vo vi wr => ∃ (k : Nat) (ado : Option Addr) (capo : Nat) (D : List Hd), k ≤ m ∧ vi = .int .i64 k ∧ vo = .slice ado k capo ∧ Hid (D.length = k) ∧ Hid (OwnR wr w.heap.size ado capo D) ∧ Hid (D.map (·.row) = (hs.take k).map (·.row)) ∧ Hid (Kp [] w wr)) (fun _ vi _ => m - (intOf vi).toNat)
  case atStart => exact ⟨0, none, 0, [], Nat.zero_le _, rfl, rfl, Lib.hid rfl, Lib.hid (OwnR.nil _ _), Lib.hid rfl, Lib.hid (Kp.refl _ _)⟩
  case round =>
    obtain ⟨k, ado, capo, D, hk, rfl, rfl, HDL, HO, HDR, HK⟩ := hrel
    obtain ⟨wo, rfl⟩ : ∃ wo : World, wo = wr := ⟨_, rfl⟩
    by_cases hlt : k < m
    · obtain ⟨b, off, xa, xn, xc, rfl, c0, hxn, hxr⟩ := (HR.out.keep0 HK.out).at' k (by rw [← HM.out]; exact hlt)
      have hxb : xn ≤ 1000000 := by rw [hxn, rowA_eq hs k (by rw [← HM.out]; exact hlt)]; exact HRB.out _ (List.getElem_mem _)
      have HTK : Hid ((hs.take (k + 1)).map (·.row) = (hs.take k).map (·.row) ++ [rowA hs k]) := Lib.hid (takeR (by rw [← HM.out]; exact hlt))
      generalize rowA hs k = r at *
      have HXN := Lib.hid hxn
      have HXR := Lib.hid hxr
      have hws := HK.out.size
      have c1 : (wo.alloc (.cells #[] 38)).cell? ⟨b, off + k, none⟩ = some (.slice xa xn xc) := cell_alloc c0
      clear hxn hxr
      go_wp2_with (first
        | (at_builtin; refine wpList_appS vlies rfl (.tmp 12) (.tmp 16) 36 36 rfl wo.heap.size 38 (.agg #[.int .u8 0, .int .i64 0, .string ⟨#[]⟩]) 32 Try.underlying36 infoVal rfl (some ⟨wo.heap.size, 0, none⟩) 0 0 [] rfl r _ xn HXN.out rfl rfl (.inl ⟨rfl, rfl⟩) (by rw [HXN.out]; exact src_rdS vlies (HXR.out.keep0 ((Kp.refl [] wo).alloc _)) Try.underlying36) (by omega) (by omega) (by simp) ?_; intro adA capA wA hoA kpA hobA _; rw [List.nil_append] at hoA; have hsA := kpA.size; rw [World.size_alloc] at hsA)
        | (at_builtin; refine wpList_appS hlies rfl (.tmp 11) (.tmp 18) 27 27 rfl w.heap.size 36 (.slice none 0 0) 24 Try.underlying27 infoRow rfl ado capo k D HDL.out.symm [⟨adA, xn, capA, r⟩] _ 1 rfl rfl rfl (((HO.out.1.keep0 ((Kp.refl [] wo).alloc _)).keep kpA (by simp [ob])).keep0 ((Kp.refl [] wA).alloc _)) (src_oneS hlies Try.underlying27 (heap_alloc_at rfl)) (by omega) (by omega) (by simp; omega) ?_; intro adB capB wB hoB kpB hobB _))
      have HOA := Lib.hid hoA
      have HOB := Lib.hid hoB
      have HKA := Lib.hid (show Kp [] wo wA from ((Kp.refl [] wo).alloc _).trans kpA (U := []) (by simp) (by simp [ob]))
      have HKB := Lib.hid kpB
      have HBB := Lib.hid hobB
      have HAA := Lib.hid hobA
      clear hoA hoB kpA kpB hobA hobB
      go_roundw
      case rel =>
        have hge := HO.out.1.ob_ge
        refine ⟨k + 1, adB, capB, D ++ [⟨adA, xn, capA, r⟩], hlt, by go_num, rfl, Lib.hid (by have := HDL.out; simp; omega), Lib.hid ⟨HOB.out, fun h hh => ?_⟩, Lib.hid (by rw [HTK.out, ← HDR.out, List.map_append]; rfl), Lib.hid ((HK.out.tr (HKA.out.alloc _)).trans HKB.out (by simp) (fun x hx => .inr (hge x hx).1))⟩
        rcases List.mem_append.1 hh with hh | hh
        · obtain ⟨h1, h2⟩ := HO.out.2 h hh
          have h1A := (h1.keep0 HKA.out).keep0 ((Kp.refl [] wA).alloc (.cells #[.slice adA xn capA] 36))
          refine ⟨h1A.keep HKB.out h2, fun x hx hne hm => ?_⟩
          rcases HBB.out _ hm with hm | hm
          · exact h2 x hx hne hm
          · have h3 := (h1.1.2.lt) x hx hne
            have h4 := HKA.out.size
            simp at hm
            omega
        · simp at hh
          subst hh
          have hrA := HOA.out.rd vlies
          have hx0 : ∀ x, adA = some x → r ≠ [] → wo.heap.size ≤ x.block ∧ x.block < wA.heap.size := fun x hx hne => by
            obtain ⟨g, h1, -, h3, h4⟩ := HOA.out.at' vlies (i := 0) (List.length_pos_iff.2 hne)
            rw [hx] at h1; cases h1
            exact HOA.out.ob_ge _ h4
          have hox : ∀ x, x ∈ ob ado capo → x < wo.heap.size := fun x hx => (hge x hx).2
          refine ⟨⟨⟨HXN.out, ((show RdV wA adA capA r from hrA).keep0 ((Kp.refl [] wA).alloc _)).keep HKB.out (fun x hx hne hm => by have := hx0 x hx hne; have := hox _ hm; omega)⟩, fun x hx hne => by have := (hx0 x hx hne).1; omega⟩, fun x hx hne hm => ?_⟩
          have h5 := hx0 x hx hne
          rcases HBB.out _ hm with hm | hm
          · have := hox _ hm; omega
          · simp at hm; omega
      case measure => simp [intOf]; omega
    · obtain rfl : k = m := by omega
      go_wp2_with fail
      go_ret
      exact ⟨ado, capo, D, by rw [← HM.out]; rfl, HO.out, by rw [HDR.out, HM.out, List.take_length], HK.out⟩
end Go.Proofs.Ytfacpfogdcefpaa
