/-
  Schema: columns; where a name stands; what is a dimension.
-/
import Derived.Test.YtfacpfogdcefpaaSch
import Derived.Test.YtfacpfogdcefpaaSec3
namespace Go.Proofs.Ytfacpfogdcefpaa
open Go.RowKit
set_option linter.unusedSimpArgs false
set_option linter.unusedVariables false

/-- A column. -/
structure Col where
  nm : ByteArray
  kd : Int
instance : Inhabited Col := ⟨⟨⟨#[]⟩, 0⟩⟩
def ccells (x : Col) : List Value := [.string x.nm, .int .u8 x.kd]
theorem clies : Lies ccells 2 := ⟨fun _ => rfl, fun x v hv => by simp [ccells] at hv; rcases hv with rfl | rfl <;> rfl, by omega⟩
/-- A slice of columns. -/
def RdC (w : World) (ad : Option Addr) (cap : Nat) (l : List Col) : Prop := RdS ccells 2 w ad cap l
def COk (l : List Col) : Prop := ∀ x ∈ l, x.nm.size ≤ maxLen ∧ 0 ≤ x.kd ∧ x.kd < 256
theorem RdC.at' {w : World} {ad : Option Addr} {cap : Nat} {l : List Col} (h : RdC w ad cap l) (i : Nat) (hi : i < l.length) :
    ∃ b off, ad = some ⟨b, off, none⟩ ∧ w.cell? ⟨b, off + i * 2, none⟩ = some (.string l[i].nm) ∧ w.cell? ⟨b, off + i * 2 + 1, none⟩ = some (.int .u8 l[i].kd) := by
  obtain ⟨b, off, h1, h2⟩ := h.2.2 i hi
  exact ⟨b, off, h1, h2 0 (by omega), h2 1 (by omega)⟩
theorem RdC.keep0 {w w' : World} {ad : Option Addr} {cap : Nat} {l : List Col} (h : RdC w ad cap l) (k : Kp [] w w') : RdC w' ad cap l := RdS.keep0 h clies.len k
theorem RdC.keep {w w' : World} {ad : Option Addr} {cap : Nat} {l : List Col} (h : RdC w ad cap l) {S : List Nat} (k : Kp S w w') (hn : ∀ x, ad = some x → l ≠ [] → x.block ∉ S) : RdC w' ad cap l := RdS.keep h clies.len k hn
theorem RdC.lt {w : World} {ad : Option Addr} {cap : Nat} {l : List Col} (h : RdC w ad cap l) : ∀ x, ad = some x → l ≠ [] → x.block < w.heap.size := RdS.lt h (by omega) clies.len
def atC (l : List Col) (i : Nat) : Col := l.getD i default
theorem atC_eq (l : List Col) (i : Nat) (h : i < l.length) : atC l i = l[i] := by simp [atC, h]
theorem COk.at' {l : List Col} (h : COk l) (i : Nat) (hi : i < l.length) : (atC l i).nm.size ≤ maxLen ∧ 0 ≤ (atC l i).kd ∧ (atC l i).kd < 256 := by rw [atC_eq l i hi]; exact h _ (List.getElem_mem _)
theorem RdC.atC {w : World} {ad : Option Addr} {cap : Nat} {l : List Col} (h : RdC w ad cap l) (i : Nat) (hi : i < l.length) :
    ∃ b off, ad = some ⟨b, off, none⟩ ∧ w.cell? ⟨b, off + i * 2, none⟩ = some (.string (atC l i).nm) ∧ w.cell? ⟨b, off + i * 2 + 1, none⟩ = some (.int .u8 (atC l i).kd) := by
  rw [atC_eq l i hi]; exact h.at' i hi

def fndC (l : List Col) (s : ByteArray) : Int := fnd (l.map (·.nm)) s 0
theorem fnd_stepC (l : List Col) (s : ByteArray) (k : Nat) (h : k < l.length) : fnd ((l.map (·.nm)).drop k) s k = if (l[k].nm).toList == s.toList then (k : Int) else fnd ((l.map (·.nm)).drop (k + 1)) s (k + 1) := by
  rw [List.drop_eq_getElem_cons (by simpa using h), fnd]; simp

set_option maxHeartbeats 400000 in
theorem sFind1_any (nm s : ByteArray) (bv : Value) (hb : bv.oneCell' = true) (p : Nat) (w : World) (h : w.cell? ⟨p, 0, none⟩ = some (.string s)) :
    Calls Try.prog 74 #[.agg #[.string nm, bv], .pointer (some ⟨p, 0, none⟩)] w fun e w' => e = .returned (.bool (nm.toList == s.toList)) ∧ Kp [] w w' := by
  have h2 := World.block_lt_of_cell? w _ h
  go_enter Try.func74, Try.ntmps74
  go_wp2_with fail
  go_ret
  exact ⟨rfl, (Kp.refl [] w).alloc _⟩

set_option maxHeartbeats 400000 in
theorem idxCol_any (ad : Option Addr) (cap n : Nat) (l : List Col) (s : ByteArray) (p : Nat) (hn : n = l.length) (w : World) (h : RdC w ad cap l) (hp : w.cell? ⟨p, 0, none⟩ = some (.string s)) :
    Calls Try.prog 73 #[.slice ad n cap, .func (.func 74) #[] #[.pointer (some ⟨p, 0, none⟩)]] w fun e w' => e = .returned (.int .i64 (fndC l s)) ∧ Kp [] w w' := by
  have H := Lib.hid h
  have HP := Lib.hid hp
  have HN := Lib.hid hn
  have hcap := h.1
  rw [← hn] at hcap
  have hcap2 := h.2.1
  clear h hn hp
  go_enter Try.func73, Try.ntmps73
  go_wp2_with fail
  go_loopw [5, 8] (fun _ vi wr => ∃ k : Nat, k ≤ n ∧ vi = .int .i64 k ∧ Hid (fndC l s = fnd ((l.map (·.nm)).drop k) s k) ∧ Kp [] w wr) (fun _ vi _ => n - (intOf vi).toNat)
  case atStart => exact ⟨0, Nat.zero_le _, rfl, Lib.hid rfl, Kp.refl _ _⟩
  case round =>
    obtain ⟨k, hk, rfl, HX, kp⟩ := hrel
    by_cases hlt : k < n
    · have hkl : k < l.length := by rw [← HN.out]; exact hlt
      obtain ⟨b, off, rfl, c0, c1⟩ := (H.out.keep0 kp).at' k hkl
      have hst := fnd_stepC l s k hkl
      have hpp := kp.cell HP.out (by simp)
      have HPP := Lib.hid hpp
      have HK := Lib.hid kp
      generalize l[k] = x at *
      cases he : x.nm.toList == s.toList with
      | true =>
        rw [he] at hst
        have HST := Lib.hid hst
        have HEQ := Lib.hid he
        clear hst hkl hpp kp he
        go_wp2_with fail
        refine (sFind1_any x.nm s _ rfl p _ HPP.out).mono ?_
        rintro e w7 ⟨rfl, kp7⟩
        rw [HEQ.out]
        go_wp2_with fail
        go_ret
        exact ⟨by rw [HX.out, HST.out]; rfl, HK.out.tr kp7⟩
      | false =>
        rw [he] at hst
        have HST := Lib.hid hst
        have HEQ := Lib.hid he
        clear hst hkl hpp kp he
        go_wp2_with fail
        refine (sFind1_any x.nm s _ rfl p _ HPP.out).mono ?_
        rintro e w7 ⟨rfl, kp7⟩
        rw [HEQ.out]
        have HK7 := Lib.hid (HK.out.tr kp7)
        go_wp2_with fail
        go_roundw
        case rel => exact ⟨k + 1, hlt, by go_num, Lib.hid (by rw [HX.out, HST.out]; rfl), HK7.out⟩
        case measure => simp [intOf]; omega
    · obtain rfl : k = n := by omega
      have HE : Hid (fndC l s = -1) := Lib.hid (by rw [HX.out, List.drop_eq_nil_of_le (by rw [List.length_map, ← HN.out]; exact Nat.le_refl _)]; rfl)
      clear HX
      go_wp2_with fail
      go_ret
      exact ⟨by rw [HE.out]; rfl, kp⟩

set_option maxHeartbeats 400000 in
theorem sFind_any (ad : Option Addr) (cap n : Nat) (l : List Col) (s : ByteArray) (hn : n = l.length) (w : World) (h : RdC w ad cap l) :
    Calls Try.prog 62 #[.slice ad n cap, .string s] w fun e w' => e = .returned (.int .i64 (fndC l s)) ∧ Kp [] w w' := by
  have H := Lib.hid h
  have HN := Lib.hid hn
  clear h hn
  go_enter Try.func62, Try.ntmps62
  go_wp2_with fail
  refine (idxCol_any ad cap n l s _ HN.out _ (H.out.keep0 ((Kp.refl [] w).alloc _)) ?_).mono ?_
  · simp
  · rintro e w7 ⟨rfl, kp7⟩
    have HK7 := Lib.hid kp7
    clear kp7
    go_wp2_with fail
    go_ret
    exact ⟨rfl, ((Kp.refl [] w).alloc _).tr HK7.out⟩

/-- Is a place a dimension? -/
def dimC (l : List Col) (p : Int) : Bool := decide (0 ≤ p ∧ p < l.length) && (decide ((atC l p.toNat).kd = 1) || decide ((atC l p.toNat).kd = 2))
def at0 (l : List Bool) (i : Nat) : Bool := l.getD i false
/-- Is a flag set? -/
def hasB (l : List Bool) (p : Int) : Bool := decide (0 ≤ p ∧ p < l.length) && at0 l p.toNat
theorem dimC_out {l : List Col} {p : Int} (h : ¬ (0 ≤ p ∧ p < l.length)) : dimC l p = false := by rw [dimC, decide_eq_false h]; rfl
theorem dimC_in {l : List Col} {p : Int} (h : 0 ≤ p ∧ p < l.length) : dimC l p = (decide ((atC l p.toNat).kd = 1) || decide ((atC l p.toNat).kd = 2)) := by rw [dimC, decide_eq_true h]; rfl
theorem hasB_out {l : List Bool} {p : Int} (h : ¬ (0 ≤ p ∧ p < l.length)) : hasB l p = false := by rw [hasB, decide_eq_false h]; rfl
theorem hasB_in {l : List Bool} {p : Int} (h : 0 ≤ p ∧ p < l.length) : hasB l p = at0 l p.toNat := by rw [hasB, decide_eq_true h]; rfl

def bcells (b : Bool) : List Value := [.bool b]
theorem blies : Lies bcells 1 := ⟨fun _ => rfl, fun x v hv => by simp [bcells] at hv; rcases hv with rfl; rfl, by omega⟩
/-- A slice of flags. -/
def RdB (w : World) (ad : Option Addr) (cap : Nat) (l : List Bool) : Prop := RdS bcells 1 w ad cap l
theorem RdB.at' {w : World} {ad : Option Addr} {cap : Nat} {l : List Bool} (h : RdB w ad cap l) (i : Nat) (hi : i < l.length) :
    ∃ b off, ad = some ⟨b, off, none⟩ ∧ w.cell? ⟨b, off + i, none⟩ = some (.bool (at0 l i)) := by
  obtain ⟨b, off, h1, h2⟩ := h.2.2 i hi
  refine ⟨b, off, h1, ?_⟩
  have := h2 0 (by omega)
  rw [Nat.mul_one, Nat.add_zero] at this
  rw [this]; simp [bcells, at0, hi]
theorem RdB.keep0 {w w' : World} {ad : Option Addr} {cap : Nat} {l : List Bool} (h : RdB w ad cap l) (k : Kp [] w w') : RdB w' ad cap l := RdS.keep0 h blies.len k

set_option maxHeartbeats 400000 in
theorem sDim_any (ad : Option Addr) (cap n : Nat) (l : List Col) (p : Int) (hn : n = l.length) (w : World) (h : RdC w ad cap l) :
    Calls Try.prog 55 #[.slice ad n cap, .int .i64 p] w fun e w' => e = .returned (.bool (dimC l p)) ∧ w' = w := by
  have H := Lib.hid h
  have HN := Lib.hid hn
  have hcap := h.1
  rw [← hn] at hcap
  have hcap2 := h.2.1
  clear h hn
  by_cases h0 : 0 ≤ p
  · by_cases h1 : p < (n : Int)
    · obtain ⟨k, rfl⟩ : ∃ k : Nat, p = (k : Int) := ⟨p.toNat, by omega⟩
      obtain ⟨b, off, rfl, -, c1⟩ := H.out.atC k (by rw [← HN.out]; omega)
      obtain ⟨z, hz⟩ : ∃ z, z = (atC l k).kd := ⟨_, rfl⟩
      rw [← hz] at c1
      have HV : Hid (dimC l (k : Int) = (decide (z = 1) || decide (z = 2))) := Lib.hid (by rw [dimC_in (by rw [← HN.out]; omega), Int.toNat_natCast, ← hz])
      have h3 : k < n := by omega
      clear hz h0
      cases h1 : z == 1
      · cases h2 : z == 2
        · go_enter Try.func55, Try.ntmps55
          go_wp2_with fail
          go_ret
          refine ⟨?_, rfl⟩
          rw [HV.out, decide_eq_false (by simpa using h1), decide_eq_false (by simpa using h2)]; rfl
        · go_enter Try.func55, Try.ntmps55
          go_wp2_with fail
          go_ret
          refine ⟨?_, rfl⟩
          rw [HV.out, decide_eq_false (by simpa using h1), decide_eq_true (by simpa using h2)]; rfl
      · go_enter Try.func55, Try.ntmps55
        go_wp2_with fail
        go_ret
        refine ⟨?_, rfl⟩
        rw [HV.out, decide_eq_true (by simpa using h1)]; rfl
    · go_enter Try.func55, Try.ntmps55
      go_wp2_with fail
      go_ret
      exact ⟨by rw [dimC_out (by rw [← HN.out]; omega)]; rfl, rfl⟩
  · go_enter Try.func55, Try.ntmps55
    go_wp2_with fail
    go_ret
    exact ⟨by rw [dimC_out (by omega)]; rfl, rfl⟩

set_option maxHeartbeats 400000 in
theorem r17Dim_any (ad : Option Addr) (cap n : Nat) (l : List Col) (p : Int) (hn : n = l.length) (w : World) (h : RdC w ad cap l) :
    Calls Try.prog 59 #[.slice ad n cap, .int .i64 p] w fun e w' => e = .returned (.bool (dimC l p)) ∧ w' = w := by
  have H := Lib.hid h
  have HN := Lib.hid hn
  have hcap := h.1
  rw [← hn] at hcap
  have hcap2 := h.2.1
  clear h hn
  by_cases h0 : 0 ≤ p
  · by_cases h1 : p < (n : Int)
    · obtain ⟨k, rfl⟩ : ∃ k : Nat, p = (k : Int) := ⟨p.toNat, by omega⟩
      obtain ⟨b, off, rfl, -, c1⟩ := H.out.atC k (by rw [← HN.out]; omega)
      obtain ⟨z, hz⟩ : ∃ z, z = (atC l k).kd := ⟨_, rfl⟩
      rw [← hz] at c1
      have HV : Hid (dimC l (k : Int) = (decide (z = 1) || decide (z = 2))) := Lib.hid (by rw [dimC_in (by rw [← HN.out]; omega), Int.toNat_natCast, ← hz])
      have h3 : k < n := by omega
      clear hz h0
      cases h1 : z == 1
      · cases h2 : z == 2
        · go_enter Try.func59, Try.ntmps59
          go_wp2_with fail
          go_ret
          refine ⟨?_, rfl⟩
          rw [HV.out, decide_eq_false (by simpa using h1), decide_eq_false (by simpa using h2)]; rfl
        · go_enter Try.func59, Try.ntmps59
          go_wp2_with fail
          go_ret
          refine ⟨?_, rfl⟩
          rw [HV.out, decide_eq_false (by simpa using h1), decide_eq_true (by simpa using h2)]; rfl
      · go_enter Try.func59, Try.ntmps59
        go_wp2_with fail
        go_ret
        refine ⟨?_, rfl⟩
        rw [HV.out, decide_eq_true (by simpa using h1)]; rfl
    · go_enter Try.func59, Try.ntmps59
      go_wp2_with fail
      go_ret
      exact ⟨by rw [dimC_out (by rw [← HN.out]; omega)]; rfl, rfl⟩
  · go_enter Try.func59, Try.ntmps59
    go_wp2_with fail
    go_ret
    exact ⟨by rw [dimC_out (by omega)]; rfl, rfl⟩

set_option maxHeartbeats 400000 in
theorem r17Has_any (ad : Option Addr) (cap n : Nat) (l : List Bool) (p : Int) (hn : n = l.length) (w : World) (h : RdB w ad cap l) :
    Calls Try.prog 60 #[.slice ad n cap, .int .i64 p] w fun e w' => e = .returned (.bool (hasB l p)) ∧ w' = w := by
  have H := Lib.hid h
  have HN := Lib.hid hn
  have hcap := h.1
  rw [← hn] at hcap
  have hcap2 := h.2.1
  clear h hn
  by_cases h0 : 0 ≤ p
  · by_cases h1 : p < (n : Int)
    · obtain ⟨k, rfl⟩ : ∃ k : Nat, p = (k : Int) := ⟨p.toNat, by omega⟩
      obtain ⟨b, off, rfl, c1⟩ := H.out.at' k (by rw [← HN.out]; omega)
      obtain ⟨z, hz⟩ : ∃ z, z = at0 l k := ⟨_, rfl⟩
      rw [← hz] at c1
      have HV : Hid (hasB l (k : Int) = z) := Lib.hid (by rw [hasB_in (by rw [← HN.out]; omega), Int.toNat_natCast, ← hz])
      have h3 : k < n := by omega
      clear hz h0
      go_enter Try.func60, Try.ntmps60
      go_wp2_with fail
      go_ret
      exact ⟨by rw [HV.out]; rfl, rfl⟩
    · go_enter Try.func60, Try.ntmps60
      go_wp2_with fail
      go_ret
      exact ⟨by rw [hasB_out (by rw [← HN.out]; omega)]; rfl, rfl⟩
  · go_enter Try.func60, Try.ntmps60
    go_wp2_with fail
    go_ret
    exact ⟨by rw [hasB_out (by omega)]; rfl, rfl⟩

/-- Where a number stands first. -/
def idxI : List Int → Int → Nat → Int
  | [], _, _ => -1
  | x :: l, s, i => if x = s then (i : Int) else idxI l s (i + 1)
theorem idxI_step (l : List Int) (s : Int) (k : Nat) (h : k < l.length) : idxI (l.drop k) s k = if nth l k = s then (k : Int) else idxI (l.drop (k + 1)) s (k + 1) := by
  rw [List.drop_eq_getElem_cons h, idxI]; simp [nth, h]
theorem idxI_mem : ∀ (l : List Int) (s : Int) (i : Nat), decide (0 ≤ idxI l s i) = l.contains s
  | [], s, i => by simp [idxI]
  | x :: l, s, i => by
    rw [idxI]
    split
    · rename_i h; subst h; simp
    · rename_i h; rw [idxI_mem l s (i + 1), List.contains_cons]; simp [Ne.symm h]

set_option maxHeartbeats 400000 in
theorem slIndex_any (ad : Option Addr) (cap n : Nat) (l : List Int) (s : Int) (hn : n = l.length) (w : World) (h : Rd w .i64 ad cap l) :
    Calls Try.prog 70 #[.slice ad n cap, .int .i64 s] w fun e w' => e = .returned (.int .i64 (idxI l s 0)) ∧ w' = w := by
  have H := Lib.hid h
  have HN := Lib.hid hn
  have hcap := h.1
  rw [← hn] at hcap
  have hcap2 := h.2.1
  clear h hn
  go_enter Try.func70, Try.ntmps70
  go_wp2_with fail
  go_loopw [5, 8] (fun _ vi wr => ∃ k : Nat, k ≤ n ∧ vi = .int .i64 k ∧ Hid (idxI l s 0 = idxI (l.drop k) s k) ∧ wr = w) (fun _ vi _ => n - (intOf vi).toNat)
  case atStart => exact ⟨0, Nat.zero_le _, rfl, Lib.hid rfl, rfl⟩
  case round =>
    obtain ⟨k, hk, rfl, HX, rfl⟩ := hrel
    by_cases hlt : k < n
    · have hkl : k < l.length := by rw [← HN.out]; exact hlt
      obtain ⟨b, off, rfl, c0⟩ := H.out.2.2 k hkl
      have hst := idxI_step l s k hkl
      obtain ⟨z, hz⟩ : ∃ z, z = nth l k := ⟨_, rfl⟩
      rw [← hz] at c0 hst
      clear hz hkl
      cases he : s == z with
      | true =>
        rw [if_pos (by simpa using (beq_iff_eq.1 he).symm)] at hst
        have HST := Lib.hid hst
        clear hst
        go_wp2_with fail
        go_ret
        exact ⟨by rw [HX.out, HST.out]; rfl, rfl⟩
      | false =>
        rw [if_neg (by intro e; subst e; simp at he)] at hst
        have HST := Lib.hid hst
        clear hst
        go_wp2_with fail
        go_roundw
        case rel => exact ⟨k + 1, hlt, by go_num, Lib.hid (by rw [HX.out, HST.out]), by first | rfl | trivial⟩
        case measure => simp [intOf]; omega
    · obtain rfl : k = n := by omega
      have HE : Hid (idxI l s 0 = -1) := Lib.hid (by rw [HX.out, List.drop_eq_nil_of_le (by rw [← HN.out]; exact Nat.le_refl _)]; rfl)
      clear HX
      go_wp2_with fail
      go_ret
      exact ⟨by rw [HE.out]; rfl, rfl⟩

set_option maxHeartbeats 400000 in
theorem slContains_any (ad : Option Addr) (cap n : Nat) (l : List Int) (s : Int) (hn : n = l.length) (w : World) (h : Rd w .i64 ad cap l) :
    Calls Try.prog 57 #[.slice ad n cap, .int .i64 s] w fun e w' => e = .returned (.bool (l.contains s)) ∧ w' = w := by
  have H := Lib.hid h
  have HN := Lib.hid hn
  clear h hn
  go_enter Try.func57, Try.ntmps57
  go_wp2_with (go_at_call 70; refine (slIndex_any _ _ _ l _ HN.out _ H.out).mono ?_; rintro e w7 ⟨rfl, rfl⟩)
  go_ret
  exact ⟨by rw [← idxI_mem l s 0]; rfl, rfl⟩

end Go.Proofs.Ytfacpfogdcefpaa
