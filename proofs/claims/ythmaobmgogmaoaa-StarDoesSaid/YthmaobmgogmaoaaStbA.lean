/-
  Star-trees: the document's Great.
-/
import Derived.Test.YthmaobmgogmaoaaStaY
namespace Go.Proofs.Ythmaobmgogmaoaa
open Go.RowKit Go.Shelf
set_option linter.unusedSimpArgs false
set_option linter.unusedVariables false
set_option maxRecDepth 100000

def longIn (rows : Nat) (l : List Int) : Bool := decide (rows < l.length)
def great19 (S M : List (List Int)) (rows : Nat) : Bool := S.any (longIn rows) || (M.any (longIn rows) || (decide (10 < S.length) || decide (10 < M.length)))
theorem any_step {α : Type} {p : α → Bool} {l : List α} {j : Nat} {a : α} (h : l[j]? = some a) (hp : (l.take j).any p = false) (ha : p a = false) : (l.take (j + 1)).any p = false := by
  obtain ⟨hj, rfl⟩ := List.getElem?_eq_some_iff.1 h
  rw [List.take_succ_eq_append_getElem hj, List.any_append, hp]; simp [ha]
theorem any_hit {α : Type} {p : α → Bool} {l : List α} {j : Nat} {a : α} (h : l[j]? = some a) (ha : p a = true) : l.any p = true := by
  obtain ⟨hj, rfl⟩ := List.getElem?_eq_some_iff.1 h
  exact List.any_eq_true.2 ⟨_, List.getElem_mem hj, ha⟩
theorem lis_get (S : List Ih) {j : Nat} (h : j < S.length) : (lis S)[j]? = some (rowP (lis S) j) := by
  rw [rowP_lis S j h]; simp [lis, h]
theorem r19Great_any (sa : Option Addr) (sn sc : Nat) (S : List Ih) (hS : sn = S.length) (da : Option Addr) (dn dc : Nat) (D : List Ih) (hD : dn = D.length) (rows : Nat) (w : World) (hs : RdI w sa sc S) (hd : RdI w da dc D) :
    Calls Try.prog 11 #[.slice sa sn sc, .slice da dn dc, .int .i64 (rows : Int)] w fun e w' => e = .returned (.bool (great19 (lis S) (lis D) rows)) ∧ w' = w := by
  have HS := Lib.hid hs
  have HD := Lib.hid hd
  have HSN := Lib.hid hS
  have HDN := Lib.hid hD
  have hc1 : sn ≤ sc := by rw [hS]; exact hs.1.1
  have hc2 := hs.1.2.1
  have hc3 : dn ≤ dc := by rw [hD]; exact hd.1.1
  have hc4 := hd.1.2.1
  have HV : Hid (great19 (lis S) (lis D) rows = ((lis S).any (longIn rows) || ((lis D).any (longIn rows) || (decide (10 < sn) || decide (10 < dn))))) := Lib.hid (by
    unfold great19; rw [hS, hD]; simp [lis])
  clear hs hd hS hD
  generalize great19 (lis S) (lis D) rows = v at *
  go_enter Try.func11, Try.ntmps11
  go_wp2_with fail
  go_loopw [7] (fun vj wr => ∃ j : Nat, j ≤ sn ∧ vj = .int .i64 j ∧ Hid (((lis S).take j).any (longIn rows) = false) ∧ wr = w) (fun vj _ => sn - (intOf vj).toNat)
  case atStart => exact ⟨0, Nat.zero_le _, rfl, Lib.hid (by simp), rfl⟩
  case round =>
    obtain ⟨j, hj, rfl, HA, rfl⟩ := hrel
    by_cases hlt : j < sn
    · have hjS : j < S.length := by rw [← HSN.out]; exact hlt
      obtain ⟨b', off', xa, xn, xc, rfl, d0, hxn, hxr⟩ := HS.out.at' j hjS
      have HG := Lib.hid (lis_get S hjS)
      have hxc : xn ≤ xc := by rw [hxn]; exact hxr.1
      have hxc2 := hxr.2.1
      have HX : Hid (longIn rows (rowP (lis S) j) = decide (rows < xn)) := Lib.hid (by unfold longIn; rw [← hxn])
      clear hxn hxr hjS
      by_cases h1 : (rows : Int) < (xn : Int)
      · have HF : Hid (v = true) := Lib.hid (by rw [HV.out, any_hit HG.out (by rw [HX.out]; exact decide_eq_true (by omega))]; rfl)
        go_wp2_with fail
        go_ret
        exact ⟨by rw [HF.out]; rfl, rfl⟩
      · have HN := Lib.hid (any_step HG.out HA.out (by rw [HX.out]; exact decide_eq_false (by omega)))
        go_wp2_with fail
        go_roundw
        case rel => exact ⟨j + 1, hlt, by go_num, HN, trivial⟩
        case measure => simp [intOf]; omega
    · obtain rfl : j = sn := by omega
      have HV2 : Hid (v = ((lis D).any (longIn rows) || (decide (10 < j) || decide (10 < dn)))) := Lib.hid (by
        have := HA.out
        rw [List.take_of_length_le (by rw [HSN.out]; simp [lis])] at this
        rw [HV.out, this]; rfl)
      go_wp2_with fail
      go_loopw [8] (fun vj w2 => ∃ i : Nat, i ≤ dn ∧ vj = .int .i64 i ∧ Hid (((lis D).take i).any (longIn rows) = false) ∧ w2 = wr) (fun vj _ => dn - (intOf vj).toNat)
      case atStart => exact ⟨0, Nat.zero_le _, rfl, Lib.hid (by simp), rfl⟩
      case round =>
        obtain ⟨i, hi, rfl, HB, rfl⟩ := hrel
        by_cases hlt2 : i < dn
        · have hjD : i < D.length := by rw [← HDN.out]; exact hlt2
          obtain ⟨b', off', xa, xn, xc, rfl, d0, hxn, hxr⟩ := HD.out.at' i hjD
          have HG := Lib.hid (lis_get D hjD)
          have hxc : xn ≤ xc := by rw [hxn]; exact hxr.1
          have hxc2 := hxr.2.1
          have HX : Hid (longIn rows (rowP (lis D) i) = decide (rows < xn)) := Lib.hid (by unfold longIn; rw [← hxn])
          clear hxn hxr hjD
          by_cases h1 : (rows : Int) < (xn : Int)
          · have HF : Hid (v = true) := Lib.hid (by rw [HV2.out, any_hit HG.out (by rw [HX.out]; exact decide_eq_true (by omega))]; rfl)
            go_wp2_with fail
            go_ret
            exact ⟨by rw [HF.out]; rfl, rfl⟩
          · have HN := Lib.hid (any_step HG.out HB.out (by rw [HX.out]; exact decide_eq_false (by omega)))
            go_wp2_with fail
            go_roundw
            case rel => exact ⟨i + 1, hlt2, by go_num, HN, trivial⟩
            case measure => simp [intOf]; omega
        · obtain rfl : i = dn := by omega
          have HV3 : Hid (v = (decide (10 < j) || decide (10 < i))) := Lib.hid (by
            have := HB.out
            rw [List.take_of_length_le (by rw [HDN.out]; simp [lis])] at this
            rw [HV2.out, this]; rfl)
          by_cases h1 : (10 : Int) < (j : Int)
          · have HF : Hid (v = true) := Lib.hid (by rw [HV3.out, decide_eq_true (by omega)]; rfl)
            go_wp2_with fail
            go_ret
            exact ⟨by rw [HF.out]; rfl, rfl⟩
          · by_cases h2 : (10 : Int) < (i : Int)
            · have HF : Hid (v = true) := Lib.hid (by rw [HV3.out, decide_eq_true (p := 10 < i) (by omega)]; simp)
              go_wp2_with fail
              go_ret
              exact ⟨by rw [HF.out]; rfl, rfl⟩
            · have HF : Hid (v = false) := Lib.hid (by rw [HV3.out, decide_eq_false (by omega), decide_eq_false (by omega)]; rfl)
              go_wp2_with fail
              go_ret
              exact ⟨by rw [HF.out]; rfl, rfl⟩
end Go.Proofs.Ythmaobmgogmaoaa
