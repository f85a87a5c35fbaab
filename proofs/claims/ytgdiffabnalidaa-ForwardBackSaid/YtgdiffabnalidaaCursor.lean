/-
  What slices.Clone and the reader of package cursor tell.
-/
import Derived.Test.YtgdiffabnalidaaBase
import Derived.Deep.QuietTactic
import Derived.BigQuiet
namespace Go.Proofs.Ytgdiffabnalidaa
open Go.RowKit
set_option linter.unusedSimpArgs false
set_option linter.unusedVariables false
variable {L : Nat}

set_option maxHeartbeats 400000 in
theorem clone_any (ad : Option Addr) (cap n : Nat) (zs : List Int) (hn : n = zs.length) (w : World) (hr : Rd w .u8 ad cap zs) (hb : n ≤ 1099511627776) :
    Calls Try.prog 58 #[.slice ad n cap] w fun e w' => ∃ ad' cap', e = .returned (.slice ad' n cap') ∧ Own w' w.heap.size 5 .u8 ad' cap' zs ∧ Kp [] w w' := by
  cases ad with
  | none =>
    have hz : zs = [] := by
      cases zs with
      | nil => rfl
      | cons x l => obtain ⟨b, off, h1, -⟩ := hr.2.2 0 (by simp); cases h1
    subst hz
    subst hn
    have heq := fun wx : World => Lib.run_eql_slice_nil (P := Try.prog) wx 24 5 none 0 cap 0 0 Try.underlying24
    clear hr
    go_enter Try.func58, Try.ntmps58
    go_wp2
    go_ret
    exact ⟨none, 0, rfl, Own.nil _ _ _ _, Kp.refl _ _⟩
  | some a =>
    have heq := fun wx : World => Lib.run_eql_slice_nil (P := Try.prog) wx 24 5 (some a) n cap 0 0 Try.underlying24
    have HN := Lib.hid hn
    have HR := Lib.hid hr
    clear hn hr
    go_enter Try.func58, Try.ntmps58
    go_wp2_with (at_builtin; refine wpList_app rfl (.tmp 5) (.tmp 6) 24 24 rfl w.heap.size 5 .u8 1 Try.underlying24 infoU8 (some ⟨w.heap.size, 0, none⟩) 0 0 [] rfl zs _ n HN.out rfl rfl (.inl ⟨rfl, rfl⟩) (by rw [HN.out]; exact src_rd (HR.out.alloc _) Try.underlying24) (by omega) (by omega) (by simp) ?_; intro ad1 cap1 w1 ho1 kp1 hob1 _)
    go_ret
    exact ⟨ad1, cap1, rfl, ho1, ((Kp.refl [] w).alloc _).trans kp1 (by simp) (by simp [ob])⟩

/-- Bytes. -/
def Bytes8 (zs : List Int) : Prop := ∀ z ∈ zs, 0 ≤ z ∧ z ≤ 255

/-- A reader at block p: its bytes, its place, whether it is bad. -/
def Rdr (w : World) (L p : Nat) (bs : List Int) (at' : Nat) (bad : Bool) : Prop :=
  ∃ ad cap, w.heap[p]? = some (.cells #[.slice ad bs.length cap, .int .i64 at', .bool bad] 80) ∧ Rd w .u8 ad cap bs ∧ (∀ x, ad = some x → bs ≠ [] → x.block ≠ p) ∧ at' ≤ bs.length ∧ bs.length ≤ 1099511627776 ∧ p < L ∧ ∀ x, ad = some x → bs ≠ [] → x.block < L

theorem rdr_cells {w : World} {p : Nat} {s : Value} {a : Int} {b : Bool} (h : w.heap[p]? = some (.cells #[s, .int .i64 a, .bool b] 80)) :
    w.cell? ⟨p, 0, none⟩ = some s ∧ w.cell? ⟨p, 1, none⟩ = some (.int .i64 a) ∧ w.cell? ⟨p, 2, none⟩ = some (.bool b) ∧ w.frozen? ⟨p, 1, none⟩ = false ∧ w.frozen? ⟨p, 2, none⟩ = false :=
  ⟨cell_of_row w p 0 _ _ _ h, cell_of_row w p 1 _ _ _ h, cell_of_row w p 2 _ _ _ h, frozen_of_row w p 1 _ _ h, frozen_of_row w p 2 _ _ h⟩
theorem Rdr.keep {w w' : World} {L p : Nat} {bs : List Int} {a : Nat} {b : Bool} (h : Rdr w L p bs a b) (k : Kp [] w w') : Rdr w' L p bs a b :=
  let ⟨ad, cap, h1, h2, h3⟩ := h; ⟨ad, cap, k.get h1 (by simp), h2.keep0 k, h3⟩

theorem cnew_any (ad : Option Addr) (cap n : Nat) (zs : List Int) (hn : n = zs.length) (w : World) (hr : Rd w .u8 ad cap zs) (hb : n ≤ 1099511627776) :
    Calls Try.prog 49 #[.slice ad n cap] w fun e w' => ∃ p, e = .returned (.pointer (some ⟨p, 0, none⟩)) ∧ w.heap.size ≤ p ∧ Rdr w' w'.heap.size p zs 0 false ∧ Kp [] w w' := by
  have HN := Lib.hid hn
  have HR := Lib.hid hr
  clear hn hr
  go_enter Try.func49, Try.ntmps49
  go_wp2_with fail
  refine (clone_any ad cap n zs HN.out w HR.out hb).mono ?_
  rintro e w1 ⟨ad1, cap1, rfl, ho1, kp1⟩
  have HO := Lib.hid ho1
  clear ho1
  go_wp2_with fail
  go_ret
  refine ⟨w1.heap.size, rfl, kp1.size, ⟨ad1, cap1, ?_, (HO.out.rd).alloc _, ?_, Nat.zero_le _, by rw [← HN.out]; exact hb, by simp, ?_⟩, kp1.alloc _⟩
  · rw [← HN.out]; exact heap_alloc_at rfl
  · intro x hx hne
    have h0 : 0 < zs.length := by cases zs with | nil => exact (hne rfl).elim | cons y l => simp
    obtain ⟨g, h1, -, -, -, h2⟩ := HO.out.at' h0
    cases h1; cases hx
    have := (HO.out.ob_ge g h2).2
    show g ≠ _; omega
  · intro x hx hne
    have h0 : 0 < zs.length := by cases zs with | nil => exact (hne rfl).elim | cons y l => simp
    obtain ⟨g, h1, -, -, -, h2⟩ := HO.out.at' h0
    cases h1; cases hx
    have := (HO.out.ob_ge g h2).2
    show g < _; simp; omega

theorem Rdr.mono {w : World} {L L' p : Nat} {bs : List Int} {a : Nat} {b : Bool} (h : Rdr w L p bs a b) (hL : L ≤ L') : Rdr w L' p bs a b :=
  let ⟨ad, cap, h1, h2, h3, h4, h5, h6, h7⟩ := h; ⟨ad, cap, h1, h2, h3, h4, h5, by omega, fun x hx hne => by have := h7 x hx hne; omega⟩
theorem Rdr.lt {w : World} {L p : Nat} {bs : List Int} {a : Nat} {b : Bool} (h : Rdr w L p bs a b) : p < L := let ⟨_, _, _, _, _, _, _, h6, _⟩ := h; h6
theorem Rdr.le {w : World} {L p : Nat} {bs : List Int} {a : Nat} {b : Bool} (h : Rdr w L p bs a b) : a ≤ bs.length ∧ bs.length ≤ 1099511627776 := let ⟨_, _, _, _, _, h4, h5, _, _⟩ := h; ⟨h4, h5⟩

theorem cbad_any (p : Nat) (bs : List Int) (a : Nat) (b : Bool) (w : World) (h : Rdr w L p bs a b) :
    Calls Try.prog 52 #[.pointer (some ⟨p, 0, none⟩)] w fun e w' => e = .returned (.bool b) ∧ w = w' := by
  obtain ⟨ad, cap, h1, -⟩ := h
  obtain ⟨-, -, c2, -⟩ := rdr_cells h1
  clear h1
  cases b
  all_goals
    go_enter Try.func52, Try.ntmps52
    go_wp2
    go_ret
    exact ⟨rfl, rfl⟩
theorem cleft_bad (p : Nat) (bs : List Int) (a : Nat) (w : World) (h : Rdr w L p bs a true) :
    Calls Try.prog 53 #[.pointer (some ⟨p, 0, none⟩)] w fun e w' => e = .returned (.int .i64 0) ∧ w = w' := by
  obtain ⟨ad, cap, h1, -⟩ := h
  obtain ⟨-, -, c2, -⟩ := rdr_cells h1
  clear h1
  go_enter Try.func53, Try.ntmps53
  go_wp2
  go_ret
  exact ⟨rfl, rfl⟩
theorem cleft_ok (p : Nat) (bs : List Int) (a : Nat) (w : World) (h : Rdr w L p bs a false) :
    Calls Try.prog 53 #[.pointer (some ⟨p, 0, none⟩)] w fun e w' => e = .returned (.int .i64 ((bs.length - a : Nat) : Int)) ∧ Kp [] w w' := by
  obtain ⟨ad, cap, h1, -, -, h2, h3⟩ := h
  obtain ⟨c0, c1, c2, -⟩ := rdr_cells h1
  clear h1
  have es : IntKind.i64.wrap ((bs.length : Int) - (a : Int)) = ((bs.length - a : Nat) : Int) := by rw [IntWalk.i64_in _ (by omega)]; omega
  go_enter Try.func53, Try.ntmps53
  go_wp2
  go_quiet (fail)
  go_wp2
  go_ret
  refine ⟨rfl, ?_⟩
  exact ⟨rfl, rfl, rfl, Nat.le_refl _, fun _ _ _ => rfl⟩

theorem Rd.keepne {w w' : World} {k : IntKind} {ad : Option Addr} {cap : Nat} {zs : List Int} (h : Rd w k ad cap zs) {S : List Nat} (hk : Kp S w w') (hn : ∀ x, ad = some x → zs ≠ [] → x.block ∉ S) : Rd w' k ad cap zs := by
  by_cases hz : zs = []
  · subst hz; exact ⟨h.1, h.2.1, fun i hi => by simp at hi⟩
  · exact h.keep hk (fun x hx => hn x hx hz)

theorem Rdr.keepS {w w' : World} {L p : Nat} {bs : List Int} {a : Nat} {b : Bool} (h : Rdr w L p bs a b) {S : List Nat} (k : Kp S w w') (hS : ∀ x, x ∈ S → L ≤ x) : Rdr w' L p bs a b := by
  obtain ⟨ad, cap, h1, h2, h3, h4, h5, h6, h7⟩ := h
  exact ⟨ad, cap, k.get h1 (fun hm => by have := hS p hm; omega), h2.keepne k (fun x hx hne hm => by have := hS _ hm; have := h7 x hx hne; omega), h3, h4, h5, h6, h7⟩

/-- What there is to be had. -/
def rok (bs : List Int) (a : Nat) (bad : Bool) (n : Int) : Prop := bad = false ∧ 0 ≤ n ∧ n ≤ ((bs.length - a : Nat) : Int)

set_option maxHeartbeats 800000 in
theorem csome_no (p : Nat) (bs : List Int) (a : Nat) (b : Bool) (n : Int) (w : World) (h : Rdr w L p bs a b) (hn : ¬ rok bs a b n) :
    Calls Try.prog 60 #[.pointer (some ⟨p, 0, none⟩), .int .i64 n] w fun e w' => e = .returned (.slice none 0 0) ∧ Rdr w' L p bs a true ∧ Kp [p] w w' := by
  have H := Lib.hid h
  have hN := Lib.hid hn
  clear hn
  cases b with
  | true =>
    clear h
    go_enter Try.func60, Try.ntmps60
    go_wp2_with (go_at_call 52; refine (cbad_any p bs a true _ H.out).mono ?_; rintro e w' ⟨rfl, rfl⟩)
    go_ret
    exact ⟨rfl, H.out, Kp.refl _ _⟩
  | false =>
    obtain ⟨ad, cap, h1, h2, h3, h4, h5⟩ := h
    obtain ⟨c0, c1, c2, f1, f2⟩ := rdr_cells h1
    have HC := Lib.hid h1
    have HD := Lib.hid h2
    clear h1 h2
    by_cases t1 : n < 0
    · go_enter Try.func60, Try.ntmps60
      go_wp2_with (go_at_call 52; refine (cbad_any p bs a false _ H.out).mono ?_; rintro e w' ⟨rfl, rfl⟩)
      go_ret
      have kp := (Kp.refl [p] w).setCell ⟨p, 2, none⟩ (.bool true) (by simp)
      exact ⟨rfl, ⟨ad, cap, heap_setCell_same w p 2 _ _ (.bool true) HC.out, HD.out.keepne kp (by simpa using h3), h3, h4, h5⟩, kp⟩
    · have t2 : ((bs.length - a : Nat) : Int) < n := by
        have := hN.out; unfold rok at this; simp only [true_and] at this; omega
      go_enter Try.func60, Try.ntmps60
      go_wp2_with (first
        | (go_at_call 52; refine (cbad_any p bs a false _ H.out).mono ?_; rintro e w' ⟨rfl, rfl⟩)
        | (go_at_call 53; refine (cleft_ok p bs a _ H.out).mono ?_; rintro e w2 ⟨rfl, kp2⟩; obtain ⟨c0', c1', c2', f1', f2'⟩ := rdr_cells (kp2.get HC.out (by simp))))
      go_ret
      have kp := (Kp.refl [p] w2).setCell ⟨p, 2, none⟩ (.bool true) (by simp)
      exact ⟨rfl, ⟨ad, cap, heap_setCell_same w2 p 2 _ _ (.bool true) (kp2.get HC.out (by simp)), (HD.out.keep0 kp2).keepne kp (by simpa using h3), h3, h4, h5⟩, kp2.trans kp (by simp) (by simp)⟩

set_option maxHeartbeats 800000 in
theorem csome_yes (p : Nat) (bs : List Int) (a n : Nat) (w : World) (h : Rdr w L p bs a false) (hn : a + n ≤ bs.length) :
    Calls Try.prog 60 #[.pointer (some ⟨p, 0, none⟩), .int .i64 n] w fun e w' => ∃ ad cap, e = .returned (.slice ad n cap) ∧ Rd w' .u8 ad cap (sub bs a (a + n)) ∧ Rdr w' L p bs (a + n) false ∧ Kp [p] w w' := by
  have H := Lib.hid h
  obtain ⟨ad, cap, h1, h2, h3, h4, h5⟩ := h
  obtain ⟨c0, c1, c2, f1, f2⟩ := rdr_cells h1
  have HC := Lib.hid h1
  have HD := Lib.hid h2
  have hcap := h2.1
  have hcap2 := h2.2.1
  have H3 := Lib.hid h3
  clear h1 h2 h3
  have t2 : ¬ ((bs.length - a : Nat) : Int) < (n : Int) := by omega
  go_enter Try.func60, Try.ntmps60
  go_wp2_with (first
    | (go_at_call 52; refine (cbad_any p bs a false _ H.out).mono ?_; rintro e w' ⟨rfl, rfl⟩)
    | (go_at_call 53; refine (cleft_ok p bs a _ H.out).mono ?_; rintro e w2 ⟨rfl, kp2⟩; obtain ⟨c0', c1', c2', f1', f2'⟩ := rdr_cells (kp2.get HC.out (by simp))))
  have kp := (Kp.refl [p] w2).setCell ⟨p, 1, none⟩ (.int .i64 ((a : Int) + n)) (by simp)
  have hn1 := heap_setCell_same w2 p 1 _ _ (.int .i64 ((a : Int) + n)) (kp2.get HC.out (by simp))
  obtain ⟨d0, d1, d2, -⟩ := rdr_cells hn1
  have hrd := (HD.out.keep0 kp2).keepne kp (by simpa using H3.out)
  generalize w2.setCell ⟨p, 1, none⟩ (.int .i64 ((a : Int) + n)) = w3 at *
  have KP := Lib.hid kp
  have HN1 := Lib.hid hn1
  have HRD := Lib.hid hrd
  have es : IntKind.i64.wrap ((a : Int) + n - n) = (a : Int) := by rw [IntWalk.i64_in _ (by omega)]; omega
  clear kp hn1 hrd c0 c1 c2 c0' c1' c2' f1 f2 f1' f2'
  by_cases hcx : cap = a
  · subst hcx
    obtain rfl : n = 0 := by omega
    go_quiet (fail)
    go_wp2
    go_ret
    refine ⟨ad, 0, ?_, Rd.slice_end (by omega), ⟨ad, cap, HN1.out, HRD.out, H3.out, by omega, h5⟩, ?_⟩
    · rfl
    · have := kp2.trans KP.out (U := [p]) (by simp) (by simp)
      exact ⟨this.os, this.tape, this.output, this.size, this.block⟩
  · go_quiet (fail)
    go_wp2
    go_ret
    refine ⟨_, _, ?_, HRD.out.slice (Nat.le_add_right a n) hn, ⟨ad, cap, by rw [Int.natCast_add]; exact HN1.out, HRD.out, H3.out, hn, h5⟩, ?_⟩
    · show Ending.returned (Value.slice (Option.map (fun x => x.add a) ad) (a + n - a) (cap - a)) = _
      rw [Nat.add_sub_cancel_left]
    · have := kp2.trans KP.out (U := [p]) (by simp) (by simp)
      exact ⟨this.os, this.tape, this.output, this.size, this.block⟩
end Go.Proofs.Ytgdiffabnalidaa
