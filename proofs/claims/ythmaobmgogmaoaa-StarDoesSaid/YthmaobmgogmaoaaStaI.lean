/-
  Star-trees: rows of numbers; whether a star-tree may be made.
-/
import Derived.Test.YthmaobmgogmaoaaStaB
namespace Go.Proofs.Ythmaobmgogmaoaa
open Go.RowKit Go.Shelf
set_option linter.unusedSimpArgs false
set_option linter.unusedVariables false
set_option maxRecDepth 100000

/-- A row of numbers as it stands in a slice of rows. -/
structure Ih where
  ad : Option Addr
  n : Nat
  cap : Nat
  l : List Int
instance : Inhabited Ih := ⟨⟨none, 0, 0, []⟩⟩
def icells (h : Ih) : List Value := [.slice h.ad h.n h.cap]
theorem ilies : Lies icells 1 := ⟨fun _ => rfl, fun x v hv => by simp [icells] at hv; subst hv; rfl, by omega⟩
def IhOk (w : World) (h : Ih) : Prop := h.n = h.l.length ∧ Rd w .i64 h.ad h.cap h.l
def RdI (w : World) (ad : Option Addr) (cap : Nat) (hs : List Ih) : Prop := RdS icells 1 w ad cap hs ∧ ∀ h ∈ hs, IhOk w h
theorem RdI.keep0 {w w' : World} {ad : Option Addr} {cap : Nat} {hs : List Ih} (h : RdI w ad cap hs) (k : Kp [] w w') : RdI w' ad cap hs := ⟨h.1.keep0 ilies.len k, fun x hx => ⟨(h.2 x hx).1, (h.2 x hx).2.keep0 k⟩⟩
def rowP (S : List (List Int)) (i : Nat) : List Int := S.getD i []
def lis (hs : List Ih) : List (List Int) := hs.map (·.l)
theorem rowP_lis (hs : List Ih) (i : Nat) (h : i < hs.length) : rowP (lis hs) i = hs[i].l := by simp [rowP, lis, h]
theorem RdI.at' {w : World} {ad : Option Addr} {cap : Nat} {hs : List Ih} (h : RdI w ad cap hs) (i : Nat) (hi : i < hs.length) :
    ∃ (b off : Nat) (ra : Option Addr) (n rc : Nat), ad = some ⟨b, off, none⟩ ∧ w.cell? ⟨b, off + i, none⟩ = some (.slice ra n rc) ∧ n = (rowP (lis hs) i).length ∧ Rd w .i64 ra rc (rowP (lis hs) i) := by
  obtain ⟨b, off, h1, h2⟩ := h.1.2.2 i hi
  obtain ⟨h3, h4⟩ := h.2 hs[i] (List.getElem_mem hi)
  have h5 := h2 0 (by omega)
  rw [rowP_lis hs i hi]
  exact ⟨b, off, _, _, _, h1, by simpa [icells] using h5, h3, h4⟩

def oddI (m x : Int) : Bool := decide (x < 0 ∨ m ≤ x)
theorem stMay1_any (x : Int) (ma : Option Addr) (mc mn : Nat) (many : List Int) (hm : mn = many.length) (j P5 P10 : Nat) (hj : j < mn) (w : World) (hr : Rd w .i64 ma mc many) (h5 : w.cell? ⟨P5, 0, none⟩ = some (.slice ma mn mc)) (h10 : w.cell? ⟨P10, 0, none⟩ = some (.int .i64 (j : Int))) :
    Calls Try.prog 52 #[.int .i64 x, .pointer (some ⟨P5, 0, none⟩), .pointer (some ⟨P10, 0, none⟩)] w fun e w' => e = .returned (.bool (oddI (nth many j) x)) ∧ Kp [] w w' := by
  obtain ⟨b, off, rfl, c0⟩ := hr.2.2 j (by rw [← hm]; exact hj)
  have hcap : mn ≤ mc := by rw [hm]; exact hr.1
  have hcap2 := hr.2.1
  obtain ⟨v, hv⟩ : ∃ v, v = nth many j := ⟨_, rfl⟩
  rw [← hv] at c0 ⊢
  clear hr hv hm
  by_cases h1 : x < 0
  · have HF : Hid (oddI v x = true) := Lib.hid (by simp [oddI, h1])
    go_enter Try.func52, Try.ntmps52
    go_wp2_with fail
    go_ret
    exact ⟨by rw [HF.out]; rfl, Kp.refl _ _⟩
  · by_cases h2 : v ≤ x
    · have HF : Hid (oddI v x = true) := Lib.hid (by simp [oddI, h2])
      go_enter Try.func52, Try.ntmps52
      go_wp2_with fail
      go_ret
      exact ⟨by rw [HF.out]; rfl, Kp.refl _ _⟩
    · have HF : Hid (oddI v x = false) := Lib.hid (by simp [oddI]; omega)
      go_enter Try.func52, Try.ntmps52
      go_wp2_with fail
      go_ret
      exact ⟨by rw [HF.out]; rfl, Kp.refl _ _⟩
theorem stMay2_any (a : Option Addr) (n c : Nat) (v : Int) (P : Nat) (w : World) (hp : w.cell? ⟨P, 0, none⟩ = some (.int .i64 v)) :
    Calls Try.prog 55 #[.slice a n c, .pointer (some ⟨P, 0, none⟩)] w fun e w' => e = .returned (.bool (decide ((n : Int) ≠ v))) ∧ Kp [] w w' := by
  by_cases h : (n : Int) = v
  · have hb : ((n : Int) != v) = false := by simp [h]
    have HF : Hid (decide ((n : Int) ≠ v) = false) := Lib.hid (by simp [h])
    clear h
    go_enter Try.func55, Try.ntmps55
    go_wp2_with fail
    go_ret
    exact ⟨by rw [HF.out]; rfl, Kp.refl _ _⟩
  · have hb : ((n : Int) != v) = true := by simp [h]
    have HF : Hid (decide ((n : Int) ≠ v) = true) := Lib.hid (by simp [h])
    clear h
    go_enter Try.func55, Try.ntmps55
    go_wp2_with fail
    go_ret
    exact ⟨by rw [HF.out]; rfl, Kp.refl _ _⟩

/-- Whether one is odd. -/
def TellsB {α : Type} (fc : Nat) (lb : Array Value) (args : α → Array Value) (p : α → Bool) (x : α) (w : World) : Prop := ∀ W, Kp [] w W → Calls Try.prog fc (args x ++ lb) W fun e w' => e = .returned (.bool (p x)) ∧ Kp [] W w'
theorem idxI_any (ad : Option Addr) (cap n : Nat) (l : List Int) (hn : n = l.length) (fc : Nat) (lb : Array Value) (p : Int → Bool) (w : World) (h : Rd w .i64 ad cap l) (heg : ∀ args w, (callFunc fc args).run Try.prog w = .ok (.enter fc args) w) (ht : ∀ x ∈ l, TellsB fc lb (fun x : Int => #[.int .i64 x]) p x w) :
    Calls Try.prog 62 #[.slice ad n cap, .func (.func fc) #[] lb] w fun e w' => ∃ v : Int, e = .returned (.int .i64 v) ∧ (decide (0 ≤ v)) = l.any p ∧ Kp [] w w' := by
  have H := Lib.hid h
  have HN := Lib.hid hn
  have HT := Lib.hid ht
  have hcap := h.1
  rw [← hn] at hcap
  have hcap2 := h.2.1
  clear h hn ht
  go_enter Try.func62, Try.ntmps62
  go_wp2_with fail
  go_loopw [5, 8] (fun _ vi wr => ∃ k : Nat, k ≤ n ∧ vi = .int .i64 k ∧ Hid ((l.take k).any p = false) ∧ Hid (Kp [] w wr)) (fun _ vi _ => n - (intOf vi).toNat)
  case atStart => exact ⟨0, Nat.zero_le _, rfl, Lib.hid (by simp), Lib.hid (Kp.refl _ _)⟩
  case round =>
    obtain ⟨k, hk, rfl, HX, HK⟩ := hrel
    obtain ⟨wo, rfl⟩ : ∃ wo : World, wo = wr := ⟨_, rfl⟩
    by_cases hlt : k < n
    · have hkl : k < l.length := by rw [← HN.out]; exact hlt
      obtain ⟨b, off, rfl, c0⟩ := (H.out.keep0 HK.out).2.2 k hkl
      have e0 : nth l k = l[k] := by simp [nth, hkl]
      have HC := Lib.hid (HT.out l[k] (List.getElem_mem hkl) wo HK.out)
      have HST : Hid (p l[k] = false → (l.take (k + 1)).any p = false) := Lib.hid (fun h => by
        rw [List.take_succ_eq_append_getElem hkl, List.any_append, HX.out]; simp [h])
      have HYES : Hid (p l[k] = true → l.any p = true) := Lib.hid (fun h => List.any_eq_true.2 ⟨_, List.getElem_mem hkl, h⟩)
      rw [e0] at c0
      clear e0
      generalize l[k] = x at *
      clear hkl
      go_wp2_with fail
      refine HC.out.mono ?_
      rintro e w7 ⟨rfl, kp7⟩
      cases hp : p x
      · have HS := Lib.hid (HST.out hp)
        go_wp2_with fail
        go_roundw
        case rel => exact ⟨k + 1, hlt, by go_num, HS, Lib.hid (HK.out.tr kp7)⟩
        case measure => simp [intOf]; omega
      · have HS := Lib.hid (HYES.out hp)
        go_wp2_with fail
        go_ret
        exact ⟨_, rfl, by rw [HS.out]; simp, HK.out.tr kp7⟩
    · obtain rfl : k = n := by omega
      go_wp2_with fail
      go_ret
      exact ⟨-1, rfl, by have := HX.out; rw [HN.out, List.take_length] at this; rw [this]; rfl, HK.out⟩
theorem contI_any (ad : Option Addr) (cap n : Nat) (l : List Int) (hn : n = l.length) (fc : Nat) (lb : Array Value) (p : Int → Bool) (w : World) (h : Rd w .i64 ad cap l) (heg : ∀ args w, (callFunc fc args).run Try.prog w = .ok (.enter fc args) w) (ht : ∀ x ∈ l, TellsB fc lb (fun x : Int => #[.int .i64 x]) p x w) :
    Calls Try.prog 53 #[.slice ad n cap, .func (.func fc) #[] lb] w fun e w' => e = .returned (.bool (l.any p)) ∧ Kp [] w w' := by
  have HI := Lib.hid (idxI_any ad cap n l hn fc lb p w h heg ht)
  clear h hn ht heg
  generalize l.any p = q at *
  go_enter Try.func53, Try.ntmps53
  go_wp2_with fail
  refine HI.out.mono ?_
  rintro e w5 ⟨v, rfl, hv, kp⟩
  go_wp2_with fail
  go_ret
  exact ⟨by rw [← hv]; rfl, kp⟩
theorem idxM_any (ad : Option Addr) (cap n : Nat) (l : List Ih) (hn : n = l.length) (fc : Nat) (lb : Array Value) (p : Ih → Bool) (w : World) (h : RdS icells 1 w ad cap l) (heg : ∀ args w, (callFunc fc args).run Try.prog w = .ok (.enter fc args) w) (ht : ∀ x ∈ l, TellsB fc lb (fun x : Ih => #[.slice x.ad x.n x.cap]) p x w) :
    Calls Try.prog 63 #[.slice ad n cap, .func (.func fc) #[] lb] w fun e w' => ∃ v : Int, e = .returned (.int .i64 v) ∧ (decide (0 ≤ v)) = l.any p ∧ Kp [] w w' := by
  have H := Lib.hid h
  have HN := Lib.hid hn
  have HT := Lib.hid ht
  have hcap := h.1
  rw [← hn] at hcap
  have hcap2 := h.2.1
  clear h hn ht
  go_enter Try.func63, Try.ntmps63
  go_wp2_with fail
  go_loopw [5, 8] (fun _ vi wr => ∃ k : Nat, k ≤ n ∧ vi = .int .i64 k ∧ Hid ((l.take k).any p = false) ∧ Hid (Kp [] w wr)) (fun _ vi _ => n - (intOf vi).toNat)
  case atStart => exact ⟨0, Nat.zero_le _, rfl, Lib.hid (by simp), Lib.hid (Kp.refl _ _)⟩
  case round =>
    obtain ⟨k, hk, rfl, HX, HK⟩ := hrel
    obtain ⟨wo, rfl⟩ : ∃ wo : World, wo = wr := ⟨_, rfl⟩
    by_cases hlt : k < n
    · have hkl : k < l.length := by rw [← HN.out]; exact hlt
      obtain ⟨b, off, rfl, c0⟩ := (H.out.keep0 ilies.len HK.out).2.2 k hkl
      have c1 := c0 0 (by omega)
      rw [Nat.mul_one, Nat.add_zero] at c1
      have HC := Lib.hid (HT.out l[k] (List.getElem_mem hkl) wo HK.out)
      have HST : Hid (p l[k] = false → (l.take (k + 1)).any p = false) := Lib.hid (fun h => by
        rw [List.take_succ_eq_append_getElem hkl, List.any_append, HX.out]; simp [h])
      have HYES : Hid (p l[k] = true → l.any p = true) := Lib.hid (fun h => List.any_eq_true.2 ⟨_, List.getElem_mem hkl, h⟩)
      clear c0
      generalize l[k] = x at *
      clear hkl
      replace c1 : wo.cell? ⟨b, off + k, none⟩ = some (.slice x.ad x.n x.cap) := c1
      go_wp2_with fail
      refine HC.out.mono ?_
      rintro e w7 ⟨rfl, kp7⟩
      cases hp : p x
      · have HS := Lib.hid (HST.out hp)
        go_wp2_with fail
        go_roundw
        case rel => exact ⟨k + 1, hlt, by go_num, HS, Lib.hid (HK.out.tr kp7)⟩
        case measure => simp [intOf]; omega
      · have HS := Lib.hid (HYES.out hp)
        go_wp2_with fail
        go_ret
        exact ⟨_, rfl, by rw [HS.out]; simp, HK.out.tr kp7⟩
    · obtain rfl : k = n := by omega
      go_wp2_with fail
      go_ret
      exact ⟨-1, rfl, by have := HX.out; rw [HN.out, List.take_length] at this; rw [this]; rfl, HK.out⟩
theorem contM_any (ad : Option Addr) (cap n : Nat) (l : List Ih) (hn : n = l.length) (fc : Nat) (lb : Array Value) (p : Ih → Bool) (w : World) (h : RdS icells 1 w ad cap l) (heg : ∀ args w, (callFunc fc args).run Try.prog w = .ok (.enter fc args) w) (ht : ∀ x ∈ l, TellsB fc lb (fun x : Ih => #[.slice x.ad x.n x.cap]) p x w) :
    Calls Try.prog 54 #[.slice ad n cap, .func (.func fc) #[] lb] w fun e w' => e = .returned (.bool (l.any p)) ∧ Kp [] w w' := by
  have HI := Lib.hid (idxM_any ad cap n l hn fc lb p w h heg ht)
  clear h hn ht heg
  generalize l.any p = q at *
  go_enter Try.func54, Try.ntmps54
  go_wp2_with fail
  refine HI.out.mono ?_
  rintro e w5 ⟨v, rfl, hv, kp⟩
  go_wp2_with fail
  go_ret
  exact ⟨by rw [← hv]; rfl, kp⟩
end Go.Proofs.Ythmaobmgogmaoaa
