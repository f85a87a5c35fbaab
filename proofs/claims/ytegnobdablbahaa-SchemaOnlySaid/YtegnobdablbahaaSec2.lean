/-
  Sections: where a name stands; whether sections may be.
-/
import Derived.Test.YtegnobdablbahaaSec
namespace Go.Proofs.Ytegnobdablbahaa
open Go.RowKit
set_option linter.unusedSimpArgs false
set_option linter.unusedVariables false

/-- A section, as it lies in memory. -/
structure Sec where
  nm : ByteArray
  ad : Option Addr
  cap : Nat
  bs : List Int
instance : Inhabited Sec := ⟨⟨⟨#[]⟩, none, 0, []⟩⟩
def scells (x : Sec) : List Value := [.string x.nm, .slice x.ad x.bs.length x.cap]
theorem slies : Lies scells 2 := ⟨fun _ => rfl, fun x v hv => by simp [scells] at hv; rcases hv with rfl | rfl <;> rfl, by omega⟩
/-- A slice of sections. -/
def RdX (w : World) (ad : Option Addr) (cap : Nat) (l : List Sec) : Prop := RdS scells 2 w ad cap l
def RdXs (w : World) (l : List Sec) : Prop := ∀ x ∈ l, Rd w .u8 x.ad x.cap x.bs
theorem RdX.at' {w : World} {ad : Option Addr} {cap : Nat} {l : List Sec} (h : RdX w ad cap l) (i : Nat) (hi : i < l.length) :
    ∃ b off, ad = some ⟨b, off, none⟩ ∧ w.cell? ⟨b, off + i * 2, none⟩ = some (.string l[i].nm) ∧ w.cell? ⟨b, off + i * 2 + 1, none⟩ = some (.slice l[i].ad l[i].bs.length l[i].cap) := by
  obtain ⟨b, off, h1, h2⟩ := h.2.2 i hi
  exact ⟨b, off, h1, h2 0 (by omega), h2 1 (by omega)⟩
theorem RdX.keep0 {w w' : World} {ad : Option Addr} {cap : Nat} {l : List Sec} (h : RdX w ad cap l) (k : Kp [] w w') : RdX w' ad cap l := RdS.keep0 h slies.len k
theorem RdX.keep {w w' : World} {ad : Option Addr} {cap : Nat} {l : List Sec} (h : RdX w ad cap l) {S : List Nat} (k : Kp S w w') (hn : ∀ x, ad = some x → l ≠ [] → x.block ∉ S) : RdX w' ad cap l := RdS.keep h slies.len k hn
theorem RdX.lt {w : World} {ad : Option Addr} {cap : Nat} {l : List Sec} (h : RdX w ad cap l) : ∀ x, ad = some x → l ≠ [] → x.block < w.heap.size := RdS.lt h (by omega) slies.len
theorem RdXs.keep0 {w w' : World} {l : List Sec} (h : RdXs w l) (k : Kp [] w w') : RdXs w' l := fun x hx => (h x hx).keep0 k

/-- Where a text stands first among others. -/
def fnd : List ByteArray → ByteArray → Nat → Int
  | [], _, _ => -1
  | x :: l, s, i => if x.toList == s.toList then (i : Int) else fnd l s (i + 1)
def fndX (l : List Sec) (s : ByteArray) : Int := fnd (l.map (·.nm)) s 0
theorem fnd_step (l : List Sec) (s : ByteArray) (k : Nat) (h : k < l.length) : fnd ((l.map (·.nm)).drop k) s k = if (l[k].nm).toList == s.toList then (k : Int) else fnd ((l.map (·.nm)).drop (k + 1)) s (k + 1) := by
  rw [List.drop_eq_getElem_cons (by simpa using h), fnd]; simp
theorem fnd_bound : ∀ (l : List ByteArray) (s : ByteArray) (i : Nat), -1 ≤ fnd l s i ∧ fnd l s i < i + l.length ∨ fnd l s i = -1
  | [], s, i => .inr rfl
  | x :: l, s, i => by
    rw [fnd]
    split
    · left; simp; omega
    · rcases fnd_bound l s (i + 1) with h | h
      · left; simp only [List.length_cons]; omega
      · exact .inr h

set_option maxHeartbeats 400000 in
theorem r21Find_any (ad : Option Addr) (cap n : Nat) (l : List Sec) (s : ByteArray) (hn : n = l.length) (w : World) (h : RdX w ad cap l) :
    Calls Try.prog 36 #[.slice ad n cap, .string s] w fun e w' => e = .returned (.int .i64 (fndX l s)) ∧ w' = w := by
  have H := Lib.hid h
  have HN := Lib.hid hn
  have hcap := h.1
  rw [← hn] at hcap
  have hcap2 := h.2.1
  clear h hn
  go_enter Try.func36, Try.ntmps36
  go_wp2_with fail
  go_loopw [5] (fun vi wr => ∃ k : Nat, k ≤ n ∧ vi = .int .i64 k ∧ Hid (fndX l s = fnd ((l.map (·.nm)).drop k) s k) ∧ wr = w) (fun vi _ => n - (intOf vi).toNat)
  case atStart => exact ⟨0, Nat.zero_le _, rfl, Lib.hid rfl, rfl⟩
  case round =>
    obtain ⟨k, hk, rfl, HX, rfl⟩ := hrel
    by_cases hlt : k < n
    · have hkl : k < l.length := by rw [← HN.out]; exact hlt
      obtain ⟨b, off, rfl, c0, c1⟩ := H.out.at' k hkl
      have hst := fnd_step l s k hkl
      obtain ⟨x, hx⟩ : ∃ x, x = l[k] := ⟨_, rfl⟩
      rw [← hx] at c0 hst
      obtain ⟨nm, hnm⟩ : ∃ nm, nm = x.nm := ⟨_, rfl⟩
      rw [← hnm] at c0 hst
      clear c1 hx hnm hkl
      cases he : nm.toList == s.toList with
      | true =>
        rw [he] at hst
        have HST := Lib.hid hst
        clear hst
        go_wp2_with fail
        go_ret
        exact ⟨by rw [HX.out, HST.out]; rfl, rfl⟩
      | false =>
        rw [he] at hst
        have HST := Lib.hid hst
        clear hst
        go_wp2_with fail
        go_roundw
        case rel => exact ⟨k + 1, hlt, by go_num, Lib.hid (by rw [HX.out, HST.out]; rfl), by first | rfl | trivial⟩
        case measure => simp [intOf]; omega
    · obtain rfl : k = n := by omega
      have HE : Hid (fndX l s = -1) := Lib.hid (by rw [HX.out, List.drop_eq_nil_of_le (by rw [List.length_map, ← HN.out]; exact Nat.le_refl _)]; rfl)
      clear HX
      go_wp2_with fail
      go_ret
      exact ⟨by rw [HE.out]; rfl, rfl⟩

set_option maxHeartbeats 400000 in
theorem xFind1_any (nm s : ByteArray) (bv : Value) (hb : bv.oneCell' = true) (p : Nat) (w : World) (h : w.cell? ⟨p, 0, none⟩ = some (.string s)) :
    Calls Try.prog 59 #[.agg #[.string nm, bv], .pointer (some ⟨p, 0, none⟩)] w fun e w' => e = .returned (.bool (nm.toList == s.toList)) ∧ Kp [] w w' := by
  have h2 := World.block_lt_of_cell? w _ h
  go_enter Try.func59, Try.ntmps59
  go_wp2_with fail
  go_ret
  exact ⟨rfl, (Kp.refl [] w).alloc _⟩

set_option maxHeartbeats 400000 in
theorem idxSec_any (ad : Option Addr) (cap n : Nat) (l : List Sec) (s : ByteArray) (p : Nat) (hn : n = l.length) (w : World) (h : RdX w ad cap l) (hp : w.cell? ⟨p, 0, none⟩ = some (.string s)) :
    Calls Try.prog 58 #[.slice ad n cap, .func (.func 59) #[] #[.pointer (some ⟨p, 0, none⟩)]] w fun e w' => e = .returned (.int .i64 (fndX l s)) ∧ Kp [] w w' := by
  have H := Lib.hid h
  have HP := Lib.hid hp
  have HN := Lib.hid hn
  have hcap := h.1
  rw [← hn] at hcap
  have hcap2 := h.2.1
  clear h hn hp
  go_enter Try.func58, Try.ntmps58
  go_wp2_with fail
  go_loopw [5, 8] (fun _ vi wr => ∃ k : Nat, k ≤ n ∧ vi = .int .i64 k ∧ Hid (fndX l s = fnd ((l.map (·.nm)).drop k) s k) ∧ Kp [] w wr) (fun _ vi _ => n - (intOf vi).toNat)
  case atStart => exact ⟨0, Nat.zero_le _, rfl, Lib.hid rfl, Kp.refl _ _⟩
  case round =>
    obtain ⟨k, hk, rfl, HX, kp⟩ := hrel
    by_cases hlt : k < n
    · have hkl : k < l.length := by rw [← HN.out]; exact hlt
      obtain ⟨b, off, rfl, c0, c1⟩ := (H.out.keep0 kp).at' k hkl
      have hst := fnd_step l s k hkl
      have hpp := kp.cell HP.out (by simp)
      have HPP := Lib.hid hpp
      have HK := Lib.hid kp
      generalize l[k] = x at *
      cases he : x.nm.toList == s.toList with
      | true =>
        rw [he] at hst
        have HST := Lib.hid hst
        have HEQ := Lib.hid he
        clear hst hkl hpp kp he
        go_wp2_with fail
        refine (xFind1_any x.nm s _ rfl p _ HPP.out).mono ?_
        rintro e w7 ⟨rfl, kp7⟩
        rw [HEQ.out]
        go_wp2_with fail
        go_ret
        exact ⟨by rw [HX.out, HST.out]; rfl, HK.out.tr kp7⟩
      | false =>
        rw [he] at hst
        have HST := Lib.hid hst
        have HEQ := Lib.hid he
        clear hst hkl hpp kp he
        go_wp2_with fail
        refine (xFind1_any x.nm s _ rfl p _ HPP.out).mono ?_
        rintro e w7 ⟨rfl, kp7⟩
        rw [HEQ.out]
        have HK7 := Lib.hid (HK.out.tr kp7)
        go_wp2_with fail
        go_roundw
        case rel => exact ⟨k + 1, hlt, by go_num, Lib.hid (by rw [HX.out, HST.out]; rfl), HK7.out⟩
        case measure => simp [intOf]; omega
    · obtain rfl : k = n := by omega
      have HE : Hid (fndX l s = -1) := Lib.hid (by rw [HX.out, List.drop_eq_nil_of_le (by rw [List.length_map, ← HN.out]; exact Nat.le_refl _)]; rfl)
      clear HX
      go_wp2_with fail
      go_ret
      exact ⟨by rw [HE.out]; rfl, kp⟩

set_option maxHeartbeats 400000 in
theorem xFind_any (ad : Option Addr) (cap n : Nat) (l : List Sec) (s : ByteArray) (hn : n = l.length) (w : World) (h : RdX w ad cap l) :
    Calls Try.prog 35 #[.slice ad n cap, .string s] w fun e w' => e = .returned (.int .i64 (fndX l s)) ∧ Kp [] w w' := by
  have H := Lib.hid h
  have HN := Lib.hid hn
  clear h hn
  go_enter Try.func35, Try.ntmps35
  go_wp2_with fail
  refine (idxSec_any ad cap n l s _ HN.out _ (H.out.keep0 ((Kp.refl [] w).alloc _)) ?_).mono ?_
  · simp
  · rintro e w7 ⟨rfl, kp7⟩
    have HK7 := Lib.hid kp7
    clear kp7
    go_wp2_with fail
    go_ret
    exact ⟨rfl, ((Kp.refl [] w).alloc _).tr HK7.out⟩
end Go.Proofs.Ytegnobdablbahaa
