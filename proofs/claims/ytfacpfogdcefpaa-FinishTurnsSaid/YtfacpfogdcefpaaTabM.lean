/-
  Tables: what Sorted tells.
  Tables: what Sorted tells.
  Tables: Sorted.
  Tables: the document's Sorted.
  Tables: what is too much; a column.
  Tables: what is known.
-/
import Derived.Test.YtfacpfogdcefpaaTabG
import Derived.Test.YtfacpfogdcefpaaValL
import Derived.Deep.MidRow
namespace Go.Proofs.Ytfacpfogdcefpaa
open Go.RowKit Go.Shelf
set_option linter.unusedSimpArgs false
set_option linter.unusedVariables false
set_option maxRecDepth 100000

def cV (x y : V3) : Int := cmpV x.k x.n x.s y.k y.n y.s
theorem cV_rng (x y : V3) : -1 ≤ cV x y ∧ cV x y ≤ 1 := (cmpV_anti _ _ _ _ _ _).2
theorem cV_anti (x y : V3) : cV y x = - cV x y := (cmpV_anti _ _ _ _ _ _).1
theorem cV_T3 (x y z : V3) : T3 (cV x y) (cV y z) (cV x z) := cmpV_T3 _ _ _ _ _ _ _ _ _
/-- Rows by one of their columns. -/
def cH (s : Nat) (x y : Hd) : Int := cV (atV x.row s) (atV y.row s)
theorem cV_swo : Swo (fun x y : V3 => decide (cV x y < 0)) where
  asym x y h := by
    have h1 := cV_anti x y
    simp only [decide_eq_true_eq, decide_eq_false_iff_not] at h ⊢
    omega
  neg x y z h1 h2 := by
    have a1 := cV_anti x y
    have a2 := cV_anti y z
    have a3 := cV_anti x z
    have t := cV_T3 x y z
    simp only [decide_eq_false_iff_not] at h1 h2 ⊢
    have := (t.1 (by omega) (by omega)).1
    omega
theorem cH_swo (s : Nat) : Swo (ltc (cH s)) where
  asym x y h := cV_swo.asym (atV x.row s) (atV y.row s) h
  neg x y z h1 h2 := cV_swo.neg (atV x.row s) (atV y.row s) (atV z.row s) h1 h2

set_option maxHeartbeats 800000 in
theorem tSorted1_any (a0 : Option Addr) (c0 n : Nat) (a : List V3) (hn : n = a.length) (b0 : Option Addr) (c1 m : Nat) (b : List V3) (hm : m = b.length) (p s : Nat) (w : World) (ha : RdV w a0 c0 a) (hb : RdV w b0 c1 b) (hp : w.cell? ⟨p, 0, none⟩ = some (.int .i64 (s : Int))) (hsn : s < n) (hsm : s < m) (hs : s ≤ 1000000) :
    Calls Try.prog 34 #[.slice a0 n c0, .slice b0 m c1, .pointer (some ⟨p, 0, none⟩)] w fun e w' => e = .returned (.int .i64 (cV (atV a s) (atV b s))) ∧ Kp [] w w' := by
  have HN := Lib.hid hn
  have HM := Lib.hid hm
  have HA := Lib.hid ha
  have HB := Lib.hid hb
  have HP := Lib.hid hp
  obtain ⟨b1, off1, rfl, -⟩ := ha.atV s (by omega)
  obtain ⟨b2, off2, rfl, -⟩ := hb.atV s (by omega)
  clear hn hm ha hb hp
  have CA : Hid (∀ W, Kp [] w W → W.cell? ⟨b1, off1 + s * 3, none⟩ = some (.int .u8 (atV a s).k) ∧ W.cell? ⟨b1, off1 + s * 3 + 1, none⟩ = some (.int .i64 (atV a s).n) ∧ W.cell? ⟨b1, off1 + s * 3 + 2, none⟩ = some (.string (atV a s).s)) := Lib.hid (fun W hW => by
    obtain ⟨b4, off4, h4, h5⟩ := (HA.out.keep0 hW).atV s (by rw [← HN.out]; exact hsn)
    cases h4; exact h5)
  have CB : Hid (∀ W, Kp [] w W → W.cell? ⟨b2, off2 + s * 3, none⟩ = some (.int .u8 (atV b s).k) ∧ W.cell? ⟨b2, off2 + s * 3 + 1, none⟩ = some (.int .i64 (atV b s).n) ∧ W.cell? ⟨b2, off2 + s * 3 + 2, none⟩ = some (.string (atV b s).s)) := Lib.hid (fun W hW => by
    obtain ⟨b4, off4, h4, h5⟩ := (HB.out.keep0 hW).atV s (by rw [← HM.out]; exact hsm)
    cases h4; exact h5)
  have HC : Hid (∀ W, Calls Try.prog 18 #[.agg #[.int .u8 (atV a s).k, .int .i64 (atV a s).n, .string (atV a s).s], .agg #[.int .u8 (atV b s).k, .int .i64 (atV b s).n, .string (atV b s).s]] W fun e w' => e = .returned (.int .i64 (cV (atV a s) (atV b s))) ∧ Kp [] W w') := Lib.hid (fun W => vCompare_any _ _ _ _ _ _ W)
  generalize cV (atV a s) (atV b s) = cv at *
  generalize atV a s = x at *
  generalize atV b s = y at *
  go_enter Try.func34, Try.ntmps34
  go_upto_region 1 with (fail)
  refine wp_region_K (by kernel_rfl) [.val (.slice (some ⟨b1, off1, none⟩) n c0), .val (.pointer (some ⟨p, 0, none⟩)), .val (.int .i64 (s : Int)), .val (.pointer (some ⟨b1, off1 + s * 3, none⟩)), .val (.agg #[.int .u8 x.k, .int .i64 x.n, .string x.s]), .val (.slice (some ⟨b2, off2, none⟩) m c1), .val (.pointer (some ⟨p, 0, none⟩)), .val (.int .i64 (s : Int)), .val (.pointer (some ⟨b2, off2 + s * 3, none⟩)), .val (.agg #[.int .u8 y.k, .int .i64 y.n, .string y.s]), .val (.int .i64 cv), .val (.int .i64 cv)] [[(0, none)], [(2, none)], [(7, some 1)], [(6, some 0), (8, some 2)], [(9, some 3)], [(1, none)], [(2, none)], [(12, some 6)], [(11, some 5), (13, some 7)], [(14, some 8)], [(10, some 4), (15, some 9)], [(16, some 10)]] rfl (by kernel_rfl) ?_ ?_
  · refine ⟨?o0, ?o1, ?o2, ?o3, ?o4, ?o5, ?o6, ?o7, ?o8, ?o9, ?o10, ?o11, trivial⟩
    case o0 => intro aR wR hR; replace hR := hR.undrew; intro (h0 : aR.tmps[0]? = some (.slice (some ⟨b1, off1, none⟩) n c0)); exact exec_val (c := .slice (some ⟨b1, off1, none⟩) n c0) (wanted_none rfl) (by go_simp) rfl
    case o1 => intro aR wR hR; replace hR := hR.undrew; intro (h2 : aR.tmps[2]? = some (.pointer (some ⟨p, 0, none⟩))); exact exec_val (c := .pointer (some ⟨p, 0, none⟩)) (wanted_none rfl) (by go_simp) rfl
    case o2 => intro aR wR hR; replace hR := hR.undrew; intro v7 h7 e7; replace e7 : v7 = .pointer (some ⟨p, 0, none⟩) := e7; subst e7; (have h1 := hR.cell HP.out (by simp)); exact exec_val (c := .int .i64 (s : Int)) (wanted_none rfl) (by go_simp) rfl
    case o3 => intro aR wR hR; replace hR := hR.undrew; intro v6 h6 e6; replace e6 : v6 = .slice (some ⟨b1, off1, none⟩) n c0 := e6; subst e6; intro v8 h8 e8; replace e8 : v8 = .int .i64 (s : Int) := e8; subst e8; exact exec_val (c := .pointer (some ⟨b1, off1 + s * 3, none⟩)) (wanted_none rfl) (by go_simp) rfl
    case o4 => intro aR wR hR; replace hR := hR.undrew; intro v9 h9 e9; replace e9 : v9 = .pointer (some ⟨b1, off1 + s * 3, none⟩) := e9; subst e9; (obtain ⟨h1, h2, h3⟩ := CA.out wR hR); exact exec_val (c := .agg #[.int .u8 x.k, .int .i64 x.n, .string x.s]) (wanted_none rfl) (by go_simp) rfl
    case o5 => intro aR wR hR; replace hR := hR.undrew; intro (h1 : aR.tmps[1]? = some (.slice (some ⟨b2, off2, none⟩) m c1)); exact exec_val (c := .slice (some ⟨b2, off2, none⟩) m c1) (wanted_none rfl) (by go_simp) rfl
    case o6 => intro aR wR hR; replace hR := hR.undrew; intro (h2 : aR.tmps[2]? = some (.pointer (some ⟨p, 0, none⟩))); exact exec_val (c := .pointer (some ⟨p, 0, none⟩)) (wanted_none rfl) (by go_simp) rfl
    case o7 => intro aR wR hR; replace hR := hR.undrew; intro v12 h12 e12; replace e12 : v12 = .pointer (some ⟨p, 0, none⟩) := e12; subst e12; (have h1 := hR.cell HP.out (by simp)); exact exec_val (c := .int .i64 (s : Int)) (wanted_none rfl) (by go_simp) rfl
    case o8 => intro aR wR hR; replace hR := hR.undrew; intro v11 h11 e11; replace e11 : v11 = .slice (some ⟨b2, off2, none⟩) m c1 := e11; subst e11; intro v13 h13 e13; replace e13 : v13 = .int .i64 (s : Int) := e13; subst e13; exact exec_val (c := .pointer (some ⟨b2, off2 + s * 3, none⟩)) (wanted_none rfl) (by go_simp) rfl
    case o9 => intro aR wR hR; replace hR := hR.undrew; intro v14 h14 e14; replace e14 : v14 = .pointer (some ⟨b2, off2 + s * 3, none⟩) := e14; subst e14; (obtain ⟨h1, h2, h3⟩ := CB.out wR hR); exact exec_val (c := .agg #[.int .u8 y.k, .int .i64 y.n, .string y.s]) (wanted_none rfl) (by go_simp) rfl
    case o10 => intro aR wR hR; replace hR := hR.undrew; intro v10 h10 e10; replace e10 : v10 = .agg #[.int .u8 x.k, .int .i64 x.n, .string x.s] := e10; subst e10; intro v15 h15 e15; replace e15 : v15 = .agg #[.int .u8 y.k, .int .i64 y.n, .string y.s] := e15; subst e15; refine exec_call (wanted_none rfl) (by go_simp; exact ⟨rfl, rfl⟩) ?_; refine (HC.out wR).mono ?_; rintro e7 w8 ⟨rfl, kp8⟩; exact ⟨_, rfl, rfl, kp8⟩
    case o11 => intro aR wR hR; replace hR := hR.undrew; intro v16 h16 e16; replace e16 : v16 = .int .i64 cv := e16; subst e16; exact exec_val (c := .int .i64 cv) (wanted_none rfl) (by go_simp) rfl
  · intro vs wR hR hV
    obtain ⟨e0, e1, e2, e3, e4, e5, e6, e7, e8, e9, e10, e11, -⟩ := hV
    replace e0 : vs 0 = .slice (some ⟨b1, off1, none⟩) n c0 := e0
    replace e1 : vs 1 = .pointer (some ⟨p, 0, none⟩) := e1
    replace e2 : vs 2 = .int .i64 (s : Int) := e2
    replace e3 : vs 3 = .pointer (some ⟨b1, off1 + s * 3, none⟩) := e3
    replace e4 : vs 4 = .agg #[.int .u8 x.k, .int .i64 x.n, .string x.s] := e4
    replace e5 : vs 5 = .slice (some ⟨b2, off2, none⟩) m c1 := e5
    replace e6 : vs 6 = .pointer (some ⟨p, 0, none⟩) := e6
    replace e7 : vs 7 = .int .i64 (s : Int) := e7
    replace e8 : vs 8 = .pointer (some ⟨b2, off2 + s * 3, none⟩) := e8
    replace e9 : vs 9 = .agg #[.int .u8 y.k, .int .i64 y.n, .string y.s] := e9
    replace e10 : vs 10 = .int .i64 cv := e10
    replace e11 : vs 11 = .int .i64 cv := e11
    simp only [putAll, e0, e1, e2, e3, e4, e5, e6, e7, e8, e9, e10, e11, Nat.reduceAdd, Nat.zero_add]
    clear e0 e1 e2 e3 e4 e5 e6 e7 e8 e9 e10 e11
    try simp only [List.setIfInBounds_toArray, List.set_cons_succ, List.set_cons_zero]
    go_wp2_with fail
    go_ret
    exact ⟨rfl, hR⟩

/-- The comparison that Sorted hands over. -/
theorem sorted1_cmp (g p s : Nat) (w : World) (hp : w.cell? ⟨p, 0, none⟩ = some (.int .i64 (s : Int))) (hpg : p ≠ g) (hs : s ≤ 1000000) :
    CmpOk g w (fun h => HdOk w h ∧ s < h.row.length ∧ ∀ x, h.ad = some x → h.row ≠ [] → x.block ≠ g) 34 #[.pointer (some ⟨p, 0, none⟩)] (cH s) where
  enters := enters_of (P := Try.prog) Try.func34 (by kernel_rfl) rfl
  tells W hW x y hx hy := by
    obtain ⟨⟨h1, h2⟩, h3, h4⟩ := hx
    obtain ⟨⟨k1, k2⟩, k3, k4⟩ := hy
    exact tSorted1_any x.ad x.cap x.n x.row h1 y.ad y.cap y.n y.row k1 p s W (h2.keep hW (fun a ha hne hm => h4 a ha hne (by simpa using hm))) (k2.keep hW (fun a ha hne hm => k4 a ha hne (by simpa using hm))) (hW.cell hp (by simpa using hpg)) (by omega) (by omega) hs
  rng x y := by have := cV_rng (atV x.row s) (atV y.row s); unfold cH; omega
end Go.Proofs.Ytfacpfogdcefpaa
namespace Go.Proofs.Ytfacpfogdcefpaa
open Go.RowKit Go.Shelf
set_option linter.unusedSimpArgs false
set_option linter.unusedVariables false
set_option maxRecDepth 100000

/-- Rows by one of their columns. -/
def ltr (s : Nat) (a b : List V3) : Bool := decide (cV (atV a s) (atV b s) < 0)
theorem ltr_swo (s : Nat) : Swo (ltr s) where
  asym x y h := cV_swo.asym (atV x s) (atV y s) h
  neg x y z h1 h2 := cV_swo.neg (atV x s) (atV y s) (atV z s) h1 h2
theorem stab_rows {s : Nat} {l r : List Hd} (h : Stab (ltc (cH s)) l r) : Stab (ltr s) (l.map (·.row)) (r.map (·.row)) := by
  refine ⟨List.pairwise_map.2 h.1, fun x => ?_⟩
  have := h.2 ⟨none, 0, 0, x⟩
  unfold alk at this ⊢
  rw [List.filter_map, List.filter_map]
  exact congrArg (List.map (·.row)) this

/-- Which error Sorted tells. -/
def sortE (l : List Col) (c : Cfg) (hs : List Hd) : Int := if !fitsC l c then 2 else mayT l hs
/-- How rows are sorted. -/
def SortedL (srt : Int) (a r : List (List V3)) : Prop := (srt < 0 → r = a) ∧ (0 ≤ srt → Stab (ltr srt.toNat) a r)
theorem SortedL.uniq {srt : Int} {a r1 r2 : List (List V3)} (h1 : SortedL srt a r1) (h2 : SortedL srt a r2) : r1 = r2 := by
  by_cases h : srt < 0
  · rw [h1.1 h, h2.1 h]
  · exact (h1.2 (by omega)).uniq (ltr_swo _) (h2.2 (by omega))
def SortPost (w : World) (l : List Col) (c : Cfg) (hs : List Hd) (e : Ending) (w' : World) : Prop :=
  Kp [] w w' ∧ ((sortE l c hs ≠ 0 ∧ e = .returned (.tuple #[.slice none 0 0, .int .i64 (sortE l c hs)])) ∨
    (sortE l c hs = 0 ∧ ∃ g R, e = .returned (.tuple #[.slice (some ⟨g, 0, none⟩) hs.length hs.length, .int .i64 0]) ∧ w.heap.size ≤ g ∧ Dat w' g R ∧ R.length = hs.length ∧ SortedL c.srt (hs.map (·.row)) (R.map (·.row)) ∧ ∀ h ∈ R, OwnRow w' (g + 1) h))

/-- What rows that may be are. -/
theorem mayT_ok {l : List Col} {hs : List Hd} (h : mayT l hs = 0) : mayC l = true ∧ ∀ x ∈ hs, x.row.length = l.length ∧ ∀ v ∈ x.row, mayV v.k v.n v.s = true := by
  unfold mayT at h
  cases hm : mayC l with
  | false => rw [hm] at h; simp at h
  | true =>
    rw [hm] at h
    cases hb : upto hs.length (fun i => badRow l (rowA hs i)) with
    | true => rw [hb] at h; simp at h
    | false =>
      refine ⟨rfl, fun x hx => ?_⟩
      obtain ⟨i, hi, rfl⟩ := List.getElem_of_mem hx
      have h1 := upto_no hi hb
      rw [rowA_eq hs i hi, badRow, Bool.or_eq_false_iff, decide_eq_false_iff_not] at h1
      refine ⟨by omega, fun v hv => ?_⟩
      obtain ⟨k, hk, rfl⟩ := List.getElem_of_mem hv
      have h2 := upto_no hk h1.2
      rw [badV, atV_eq _ k hk] at h2
      simpa using h2
theorem fits_srt {l : List Col} {c : Cfg} (h : fitsC l c = true) : c.srt = -1 ∨ (0 ≤ c.srt ∧ c.srt < (l.length : Nat)) := by
  unfold fitsC at h
  simp only [Bool.and_eq_true] at h
  have h1 := h.2.1
  rw [srtC, Bool.or_eq_true] at h1
  rcases h1 with h1 | h1
  · exact .inl (by simpa using h1)
  · right
    unfold dimC at h1
    simp only [Bool.and_eq_true, decide_eq_true_eq] at h1
    omega
end Go.Proofs.Ytfacpfogdcefpaa
namespace Go.Proofs.Ytfacpfogdcefpaa
open Go.RowKit Go.Shelf
set_option linter.unusedSimpArgs false
set_option linter.unusedVariables false
set_option maxRecDepth 100000

/-- What is told where Sorted sorts. -/
theorem stab_post {w w5 w6 : World} {l : List Col} {c : Cfg} {hs cs R : List Hd} {g s : Nat} (he : sortE l c hs = 0) (hsr : c.srt = (s : Int)) (hcs : cs.map (·.row) = hs.map (·.row)) (ho : ∀ h ∈ cs, OwnRow w5 (g + 1) h) (hst : Stab (ltc (cH s)) cs R) (hd : Dat w6 g R) (kp : Kp [g] w5 w6) (hg : w.heap.size ≤ g) (k5 : Kp [] w w5) :
    SortPost w l c hs (.returned (.tuple #[.slice (some ⟨g, 0, none⟩) hs.length hs.length, .int .i64 0])) w6 := by
  have hlen : cs.length = hs.length := by have := congrArg List.length hcs; simpa using this
  refine ⟨k5.trans kp (by simp) (by intro x hx; simp at hx; rw [hx]; exact .inr hg), .inr ⟨he, g, R, rfl, hg, hd, ?_, ⟨fun h => by omega, fun _ => ?_⟩, fun h hh => ?_⟩⟩
  · rw [← hlen]; exact (hst.perm (cH_swo s)).length_eq
  · rw [hsr, ← hcs]; exact stab_rows hst
  · have o := ho h (hst.mem (cH_swo s) hh)
    exact o.keep kp (by have := o.blk_ge.1; simp; omega)

set_option maxHeartbeats 1600000 in
theorem tSorted_any (ad : Option Addr) (cap n : Nat) (l : List Col) (hn : n = l.length) (c : Cfg) (ra : Option Addr) (rc m : Nat) (hs : List Hd) (hm : m = hs.length) (w : World) (h : RdC w ad cap l) (ho : COk l) (hc : RdCfg w c) (hr : RdR w ra rc hs) (hnb : n ≤ 1000000) (hmb : m ≤ 1000000) (hrb : ∀ h ∈ hs, h.row.length ≤ 1000000) :
    Calls Try.prog 12 #[.slice ad n cap, cfgV c, .slice ra m rc] w (SortPost w l c hs) := by
  have H := Lib.hid h
  have HO := Lib.hid ho
  have HC := Lib.hid hc
  have HR := Lib.hid hr
  have HN := Lib.hid hn
  have HM := Lib.hid hm
  have HRB := Lib.hid hrb
  have FT : Hid (∀ W, Kp [] w W → Calls Try.prog 32 #[.slice ad n cap, cfgV c] W fun e w' => e = .returned (.bool (fitsC l c)) ∧ Kp [] W w') := Lib.hid (fun W k => sFits_any ad cap n l HN.out c W (H.out.keep0 k) HO.out (HC.out.keep0 k))
  have MT : Hid (∀ W, Kp [] w W → Calls Try.prog 14 #[.slice ad n cap, .slice ra m rc] W fun e w' => e = .returned (.int .i64 (mayT l hs)) ∧ Kp [] W w') := Lib.hid (fun W k => tMay_any ad cap n l HN.out ra rc m hs HM.out W (H.out.keep0 k) HO.out (HR.out.keep0 k) hmb)
  have CT : Hid (∀ W, Kp [] w W → Calls Try.prog 19 #[.slice ra m rc] W (CopyPost W hs)) := Lib.hid (fun W k => tCopy_any ra rc m hs HM.out W (HR.out.keep0 k) hmb HRB.out)
  have SE : Hid (sortE l c hs = if !fitsC l c then 2 else mayT l hs) := Lib.hid rfl
  have BR : Hid (fitsC l c = true → mayT l hs = 0 → (c.srt < 0 ∨ ∃ s : Nat, c.srt = (s : Int) ∧ s < n ∧ ∀ x ∈ hs, s < x.row.length)) := Lib.hid (fun h1 h2 => by
    rcases fits_srt h1 with h3 | ⟨h3, h4⟩
    · left; omega
    · right
      refine ⟨c.srt.toNat, by omega, by rw [HN.out]; omega, fun x hx => ?_⟩
      have := ((mayT_ok h2).2 x hx).1
      omega)
  clear h ho hc hr hn hrb hm
  obtain ⟨sv, hsv⟩ : ∃ sv, sv = c.srt := ⟨_, rfl⟩
  obtain ⟨v1, hv1⟩ : ∃ v, v = Value.slice c.ia c.inv.length c.ic := ⟨_, rfl⟩
  obtain ⟨v2, hv2⟩ : ∃ v, v = Value.slice c.ra c.rng.length c.rc := ⟨_, rfl⟩
  obtain ⟨v3, hv3⟩ : ∃ v, v = Value.slice c.sa c.spl.length c.sc := ⟨_, rfl⟩
  obtain ⟨v4, hv4⟩ : ∃ v, v = c.leaf := ⟨_, rfl⟩
  have hcv : cfgV c = .agg #[.int .i64 sv, v1, v2, v3, .int .i64 v4] := by rw [hsv, hv1, hv2, hv3, hv4]; rfl
  rw [hcv] at FT ⊢
  have HSV := Lib.hid hsv
  clear hsv hcv
  go_enter Try.func12, Try.ntmps12
  simp only [hv1, hv2, hv3]
  go_wp2_with fail
  have hlt0 : w.heap.size < (w.alloc (Obj.cells #[Value.int IntKind.i64 sv, Value.slice c.ia c.inv.length c.ic, Value.slice c.ra c.rng.length c.rc, Value.slice c.sa c.spl.length c.sc, Value.int IntKind.i64 c.leaf] 26)).heap.size := by simp
  simp only [hv1, hv2, hv3, hv4] at FT
  refine (FT.out _ ((Kp.refl [] w).alloc _)).mono ?_
  rintro e w2 ⟨rfl, kp2⟩
  have p0 : w2.cell? ⟨w.heap.size, 0, none⟩ = some (.int .i64 sv) := kp2.cell (by simp) (by simp)
  have k2 : Kp [] w w2 := ((Kp.refl [] w).alloc _).trans kp2 (by simp) (by simp)
  have hp2 : w.heap.size < w2.heap.size := Nat.lt_of_lt_of_le hlt0 kp2.size
  obtain ⟨p, hp⟩ : ∃ p, p = w.heap.size := ⟨_, rfl⟩
  rw [← hp] at p0 hp2 ⊢
  have P0 := Lib.hid p0
  have HP2 := Lib.hid hp2
  have K2 := Lib.hid k2
  clear p0 hp2 k2 kp2 hlt0 hp FT
  cases hf : fitsC l c with
  | false =>
    have HE : Hid (sortE l c hs = 2) := Lib.hid (by rw [SE.out, hf]; rfl)
    clear hf
    go_wp2_with fail
    go_ret2
    exact ⟨K2.out, .inl ⟨by rw [HE.out]; decide, by rw [HE.out]; rfl⟩⟩
  | true =>
    have HE : Hid (sortE l c hs = mayT l hs) := Lib.hid (by rw [SE.out, hf]; rfl)
    have HB := Lib.hid (BR.out hf)
    clear hf
    go_wp2_with fail
    refine (MT.out w2 K2.out).mono ?_
    rintro e w3 ⟨rfl, kp3⟩
    have K3 : Hid (Kp [] w w3) := Lib.hid (K2.out.trans kp3 (by simp) (by simp))
    have P3 : Hid (w3.cell? ⟨p, 0, none⟩ = some (.int .i64 sv)) := Lib.hid (kp3.cell P0.out (by simp))
    have HP3 : Hid (p < w3.heap.size) := Lib.hid (Nat.lt_of_lt_of_le HP2.out kp3.size)
    clear kp3
    by_cases hz : mayT l hs = 0
    · have HB' := HB.out hz
      have HE' : Hid (sortE l c hs = 0) := Lib.hid (by rw [HE.out, hz])
      rw [hz]
      clear hz
      go_wp2_with fail
      refine (CT.out w3 K3.out).mono ?_
      rintro e w4 ⟨g, cs, rfl, hg, hd, hcs, hown, -, kp4⟩
      rw [← HM.out]
      have K4 : Hid (Kp [] w w4) := Lib.hid (K3.out.trans kp4 (by simp) (by simp))
      have p4 : w4.cell? ⟨p, 0, none⟩ = some (.int .i64 sv) := kp4.cell P3.out (by simp)
      have HG : Hid (w.heap.size ≤ g) := Lib.hid (Nat.le_trans K3.out.size hg)
      have HPG : Hid (p ≠ g) := Lib.hid (by have := HP3.out; omega)
      have HCS := Lib.hid hcs
      have HOW := Lib.hid hown
      have HD := Lib.hid hd
      have HLN : Hid (cs.length = m) := Lib.hid (by rw [HM.out]; simpa using congrArg List.length hcs)
      clear hg hcs hown hd kp4
      rcases HB' with hlt | ⟨s, hs1, hs2, hs3⟩
      · have hs0 : sv < 0 := by rw [HSV.out]; exact hlt
        have HL := Lib.hid hlt
        clear hlt
        have hdec : decide ((0 : Int) ≤ sv) = false := by simp; omega
        go_wp2_with fail
        go_ret2
        exact ⟨K4.out, .inr ⟨HE'.out, g, cs, by rw [← HM.out]; rfl, HG.out, HD.out, by rw [HLN.out, HM.out], ⟨fun _ => HCS.out, fun h => by have := HL.out; omega⟩, HOW.out⟩⟩
      · have HS1 := Lib.hid hs1
        have HS3 := Lib.hid hs3
        obtain rfl : sv = (s : Int) := by rw [HSV.out, hs1]
        have P4 := Lib.hid p4
        clear hs1 hs3
        have HU : Hid (∀ x ∈ cs, HdOk w4 x ∧ s < x.row.length ∧ ∀ a, x.ad = some a → x.row ≠ [] → a.block ≠ g) := Lib.hid (fun x hx => by
          refine ⟨(HOW.out x hx).ok, ?_, fun a ha _ => ?_⟩
          · have h1 : x.row ∈ hs.map (·.row) := by rw [← HCS.out]; exact List.mem_map_of_mem hx
            obtain ⟨y, hy, h2⟩ := List.mem_map.1 h1
            rw [← h2]; exact HS3.out y hy
          · obtain ⟨q, h1, -, -, h2, -⟩ := HOW.out x hx
            rw [ha] at h1; cases h1; simp only; omega)
        have hs0 : (0 : Int) ≤ (s : Int) := by omega
        go_wp2_with fail
        refine (sortSt_any g m m _ _ (cH s) _ w4 (sorted1_cmp g p s w4 P4.out HPG.out (by omega)) (cH_swo s) hmb (Nat.le_refl _) cs HLN.out HU.out HD.out).mono ?_
        rintro e w6 ⟨⟨v, rfl⟩, R, hst, hd6, kp6⟩
        go_wp2_with fail
        go_ret2
        rw [HM.out]
        exact stab_post HE'.out HS1.out HCS.out HOW.out hst hd6 kp6 HG.out K4.out
    · have HZ := Lib.hid (show sortE l c hs ≠ 0 by rw [HE.out]; exact hz)
      generalize mayT l hs = v at *
      have hvz : ((v : Int) != 0) = true := by simpa using hz
      go_wp2_with fail
      go_ret2
      exact ⟨K3.out, .inl ⟨HZ.out, by rw [HE.out]; rfl⟩⟩
end Go.Proofs.Ytfacpfogdcefpaa
namespace Go.Proofs.Ytfacpfogdcefpaa
open Go.RowKit Go.Shelf
set_option linter.unusedSimpArgs false
set_option linter.unusedVariables false
set_option maxRecDepth 100000

section
variable {α : Type} {f : α → List Value} {sz : Nat} {w : World} {ad : Option Addr} {cap : Nat} {l : List α}
theorem RdS.head (h : RdS f sz w ad cap l) {b : Nat} (hb : b ≤ l.length) : RdS f sz w ad cap (l.take b) := by
  have h1 := h.1
  refine ⟨by simp; omega, h.2.1, fun i hi => ?_⟩
  have hi2 : i < l.length := by simp at hi; omega
  obtain ⟨g, off, h2, h3⟩ := h.2.2 i hi2
  exact ⟨g, off, h2, fun j hj => by rw [h3 j hj]; simp⟩
theorem RdS.tail (h : RdS f sz w ad cap l) {a : Nat} (ha : a ≤ l.length) : RdS f sz w (ad.map (·.add (a * sz))) (cap - a) (l.drop a) := by
  have h1 := h.1
  refine ⟨by simp; omega, by have := h.2.1; omega, fun i hi => ?_⟩
  have hi2 : a + i < l.length := by simp at hi; omega
  obtain ⟨g, off, rfl, h3⟩ := h.2.2 (a + i) hi2
  refine ⟨g, off + a * sz, by simp [Addr.add_lit], fun j hj => ?_⟩
  have := h3 j hj
  rw [Nat.add_mul, ← Nat.add_assoc off] at this
  rw [this]; simp
/-- An element behind Q. -/
theorem RdS.mid {ad : Option Addr} {Q Z : List Hd} {x : Hd} (h : RdS hcells 1 w ad cap (Q ++ x :: Z)) : ∃ b off, ad = some ⟨b, off, none⟩ ∧ w.cell? ⟨b, off + Q.length, none⟩ = some (.slice x.ad x.n x.cap) := by
  obtain ⟨b, off, h1, h2⟩ := h.2.2 Q.length (by simp)
  refine ⟨b, off, h1, ?_⟩
  have := h2 0 (by omega)
  simpa [hcells] using this
end
theorem size_row (w : World) : (sizeOf (Try.prog.elem 27)).run Try.prog w = .ok 1 w := by
  obtain ⟨i, h1, h2, h3, h4⟩ := info_parts infoRow
  have := run_sizeOf (P := Try.prog) w h1
  have e : Try.prog.elem 27 = 36 := by kernel_rfl
  have e2 : Try.prog.cellsOf 36 = 1 := by kernel_rfl
  rw [e2] at this; rw [e]; exact this
theorem head_rows (w : World) (ad : Option Addr) (cap n b : Nat) (l : List Hd) (hn : n = l.length) (hb : b ≤ n) (hr : RdS hcells 1 w ad cap l) :
    ∃ ad' cap', (∀ wx : World, (Instr.slice 27 (.slice ad n cap) none (some (.int .i64 b)) none).run Try.prog wx = .ok (.slice ad' b cap') wx) ∧ RdS hcells 1 w ad' cap' (l.take b) := by
  subst hn
  have := hr.1
  refine ⟨if cap = 0 then ad else ad.map (·.add 0), cap - 0, fun wx => ?_, ?_⟩
  · rw [run_slice_h (P := Try.prog) (w := wx) 27 ad l.length cap (by kernel_rfl) .i64 (b : Int) (by omega) (by omega), size_row]
    simp [Result.andThen, sliced]
  · have h0 : (if cap = 0 then ad else ad.map (·.add 0)) = ad := by
      split
      · rfl
      · cases ad <;> rfl
    rw [h0]
    exact hr.head hb
theorem tail_rows (w : World) (ad : Option Addr) (cap n a : Nat) (l : List Hd) (hn : n = l.length) (ha : a ≤ n) (hr : RdS hcells 1 w ad cap l) :
    ∃ ad' cap', (∀ wx : World, (Instr.slice 27 (.slice ad n cap) (some (.int .i64 a)) none none).run Try.prog wx = .ok (.slice ad' (n - a) cap') wx) ∧ RdS hcells 1 w ad' cap' (l.drop a) := by
  subst hn
  refine ⟨if cap = a then ad else ad.map (·.add (a * 1)), cap - a, fun wx => ?_, ?_⟩
  · rw [run_slice_l (P := Try.prog) (w := wx) 27 ad l.length cap (by kernel_rfl) .i64 (a : Int) (by omega) (by omega), size_row]
    simp [Result.andThen, sliced]
  · by_cases hc : cap = a
    · have := hr.1
      have hla : l.length = a := by omega
      rw [if_pos hc, show cap - a = 0 by omega, List.drop_of_length_le (by omega)]
      exact ⟨by simp, by omega, fun i hi => by simp at hi⟩
    · rw [if_neg hc]
      exact hr.tail ha

/-- What the document's Sorted comes to. -/
def RSortPost (w : World) (l : List Col) (c : Cfg) (hs : List Hd) (e : Ending) (w' : World) : Prop :=
  Kp [] w w' ∧ ((sortE l c hs ≠ 0 ∧ e = .returned (.tuple #[.slice none 0 0, .int .i64 (sortE l c hs)])) ∨
    (sortE l c hs = 0 ∧ ∃ ad cap R, e = .returned (.tuple #[.slice ad hs.length cap, .int .i64 0]) ∧ R.length = hs.length ∧ RdR w' ad cap R ∧ SortedL c.srt (hs.map (·.row)) (R.map (·.row))))

theorem lessV_cV (x y : V3) : lessV x.k x.n x.s y.k y.n y.s = decide (cV x y < 0) := by
  have h := cmpL_V x.k x.n x.s y.k y.n y.s
  unfold cV
  rw [← h]
  unfold cmpL
  cases lessV x.k x.n x.s y.k y.n y.s
  · simp; split <;> simp
  · simp
theorem mayV_size {k n : Int} {s : ByteArray} (h : mayV k n s = true) : s.size ≤ 1000000 := by
  unfold mayV at h
  split at h
  · have h1 : s.toList = [] := by simpa using h
    rw [ByteArray.toList_eq] at h1
    have : s.size = 0 := by rw [ByteArray.size, ← Array.length_toList, h1]; rfl
    omega
  · simp only [Bool.and_eq_true, decide_eq_true_eq] at h
    omega

/-- A step of the document's sorting. -/
theorem sort_step {srt : Int} {a : List (List V3)} {x : List V3} {L Z : List Hd} {y : Hd} (hy : y.row = x) (h : SortedL srt a ((L ++ Z).map (·.row))) (h0 : srt < 0 → Z = []) (h1 : ∀ s : Nat, srt = s → (∀ z ∈ Z, ltr s x z.row = true) ∧ (∀ z ∈ L, ltr s x z.row = false)) :
    SortedL srt (a ++ [x]) ((L ++ y :: Z).map (·.row)) := by
  subst hy
  refine ⟨fun hlt => ?_, fun hge => ?_⟩
  · have h2 := h.1 hlt
    obtain rfl := h0 hlt
    simp at h2 ⊢
    exact h2
  · have h2 := h.2 hge
    obtain ⟨h3, h4⟩ := h1 srt.toNat (by omega)
    simp only [List.map_append, List.map_cons] at h2 ⊢
    exact stab_put (ltr_swo _) h2 (by simpa using h3) (by simpa using h4)
theorem sort_stop {srt : Int} {a : List (List V3)} {x : List V3} {L Z : List Hd} {y : Hd} {s : Nat} (hs : srt = s) (h : SortedL srt a (((L ++ [y]) ++ Z).map (·.row))) (hy : ltr s x y.row = false) : ∀ z ∈ L ++ [y], ltr s x z.row = false := by
  have h2 := (h.2 (by omega)).1
  rw [List.map_append] at h2
  have h3 := (List.pairwise_append.1 h2).1
  rw [hs, Int.toNat_natCast, List.map_append] at h3
  intro z hz
  exact last_le (ltr_swo s) h3 hy z.row (by
    rw [show ([y.row] : List (List V3)) = [y].map (·.row) from rfl, ← List.map_append]; exact List.mem_map_of_mem hz)

/-- What may be sorted. -/
def rowOk (srt : Int) (r : List V3) : Prop := (∀ s : Nat, srt = s → s < r.length) ∧ ∀ v ∈ r, v.s.size ≤ 1000000
theorem rowOk.size {srt : Int} {r : List V3} (h : rowOk srt r) {s : Nat} (hs : s < r.length) : (atV r s).s.size ≤ 1000000 := by
  rw [atV_eq r s hs]; exact h.2 _ (List.getElem_mem hs)
set_option maxHeartbeats 3200000 in
theorem r18Sorted_any (ad : Option Addr) (cap n : Nat) (l : List Col) (hn : n = l.length) (c : Cfg) (ra : Option Addr) (rc m : Nat) (hs : List Hd) (hm : m = hs.length) (w : World) (h : RdC w ad cap l) (ho : COk l) (hc : RdCfg w c) (hr : RdR w ra rc hs) (hnb : n ≤ 1000000) (hmb : m ≤ 1000000) :
    Calls Try.prog 13 #[.slice ad n cap, cfgV c, .slice ra m rc] w (RSortPost w l c hs) := by
  have H := Lib.hid h
  have HO := Lib.hid ho
  have HC := Lib.hid hc
  have HR := Lib.hid hr
  have HN := Lib.hid hn
  have HM := Lib.hid hm
  have FT : Hid (∀ W, Kp [] w W → Calls Try.prog 35 #[.slice ad n cap, cfgV c] W fun e w' => e = .returned (.bool (fitsC l c)) ∧ Kp [] W w') := Lib.hid (fun W k => r17Fits_any ad cap n l HN.out c W (H.out.keep0 k) HO.out (HC.out.keep0 k))
  have MT : Hid (∀ W, Kp [] w W → Calls Try.prog 15 #[.slice ad n cap, .slice ra m rc] W fun e w' => e = .returned (.int .i64 (mayT l hs)) ∧ Kp [] W w') := Lib.hid (fun W k => r18May_any ad cap n l HN.out ra rc m hs HM.out W (H.out.keep0 k) HO.out (HR.out.keep0 k) hmb)
  have SE : Hid (sortE l c hs = if !fitsC l c then 2 else mayT l hs) := Lib.hid rfl
  have BR : Hid (fitsC l c = true → mayT l hs = 0 → (c.srt < 0 ∨ ∃ s : Nat, c.srt = (s : Int) ∧ s < n) ∧ ∀ x ∈ hs, rowOk c.srt x.row) := Lib.hid (fun h1 h2 => by
    have h5 := (mayT_ok h2).2
    refine ⟨?_, fun x hx => ⟨fun s hs => ?_, fun v hv => mayV_size ((h5 x hx).2 v hv)⟩⟩
    · rcases fits_srt h1 with h3 | ⟨h3, h4⟩
      · left; omega
      · right; exact ⟨c.srt.toNat, by omega, by rw [HN.out]; omega⟩
    · rcases fits_srt h1 with h3 | ⟨h3, h4⟩
      · omega
      · have := (h5 x hx).1; omega)
  clear h ho hc hr hn hm
  obtain ⟨sv, hsv⟩ : ∃ sv, sv = c.srt := ⟨_, rfl⟩
  obtain ⟨v1, hv1⟩ : ∃ v, v = Value.slice c.ia c.inv.length c.ic := ⟨_, rfl⟩
  obtain ⟨v2, hv2⟩ : ∃ v, v = Value.slice c.ra c.rng.length c.rc := ⟨_, rfl⟩
  obtain ⟨v3, hv3⟩ : ∃ v, v = Value.slice c.sa c.spl.length c.sc := ⟨_, rfl⟩
  obtain ⟨v4, hv4⟩ : ∃ v, v = c.leaf := ⟨_, rfl⟩
  have hcv : cfgV c = .agg #[.int .i64 sv, v1, v2, v3, .int .i64 v4] := by rw [hsv, hv1, hv2, hv3, hv4]; rfl
  rw [hcv] at FT ⊢
  have HSV := Lib.hid hsv
  rw [← hsv] at BR
  clear hsv hcv
  go_enter Try.func13, Try.ntmps13
  simp only [hv1, hv2, hv3]
  go_wp2_with fail
  have hlt0 : w.heap.size < (w.alloc (Obj.cells #[Value.int IntKind.i64 sv, Value.slice c.ia c.inv.length c.ic, Value.slice c.ra c.rng.length c.rc, Value.slice c.sa c.spl.length c.sc, Value.int IntKind.i64 c.leaf] 26)).heap.size := by simp
  simp only [hv1, hv2, hv3, hv4] at FT
  refine (FT.out _ ((Kp.refl [] w).alloc _)).mono ?_
  rintro e w2 ⟨rfl, kp2⟩
  have p0 : w2.cell? ⟨w.heap.size, 0, none⟩ = some (.int .i64 sv) := kp2.cell (by simp) (by simp)
  have k2 : Kp [] w w2 := ((Kp.refl [] w).alloc _).trans kp2 (by simp) (by simp)
  have hp2 : w.heap.size < w2.heap.size := Nat.lt_of_lt_of_le hlt0 kp2.size
  obtain ⟨p, hp⟩ : ∃ p, p = w.heap.size := ⟨_, rfl⟩
  rw [← hp] at p0 hp2 ⊢
  have P0 := Lib.hid p0
  have HP2 := Lib.hid hp2
  have K2 := Lib.hid k2
  clear p0 hp2 k2 kp2 hlt0 hp FT
  cases hf : fitsC l c with
  | false =>
    have HE : Hid (sortE l c hs = 2) := Lib.hid (by rw [SE.out, hf]; rfl)
    clear hf
    go_wp2_with fail
    go_ret2
    exact ⟨K2.out, .inl ⟨by rw [HE.out]; decide, by rw [HE.out]; rfl⟩⟩
  | true =>
    have HE : Hid (sortE l c hs = mayT l hs) := Lib.hid (by rw [SE.out, hf]; rfl)
    have HB := Lib.hid (BR.out hf)
    clear hf
    go_wp2_with fail
    refine (MT.out w2 K2.out).mono ?_
    rintro e w3 ⟨rfl, kp3⟩
    have K3 : Hid (Kp [] w w3) := Lib.hid (K2.out.trans kp3 (by simp) (by simp))
    have P3 : Hid (w3.cell? ⟨p, 0, none⟩ = some (.int .i64 sv)) := Lib.hid (kp3.cell P0.out (by simp))
    clear kp3
    by_cases hz : mayT l hs = 0
    · have HB' := (HB.out hz).1
      have HRK := Lib.hid (HB.out hz).2
      have HE' : Hid (sortE l c hs = 0) := Lib.hid (by rw [HE.out, hz])
      rw [hz]
      clear hz
      go_wp2_with fail
      go_loopw [9, 10] (fun vo vi wr => ∃ (i : Nat) (ado : Option Addr) (capo : Nat) (R : List Hd), i ≤ m ∧ vi = .int .i64 i ∧ vo = .slice ado i capo ∧ Hid (i = R.length) ∧ Hid (OwnS hcells 1 wr w3.heap.size 36 ado capo R) ∧ Hid (∀ x ∈ R, HdOk w3 x ∧ rowOk sv x.row) ∧ Hid (SortedL sv ((hs.take i).map (·.row)) (R.map (·.row))) ∧ Hid (Kp [] w3 wr)) (fun _ vi _ => m - (intOf vi).toNat)
      case atStart => exact ⟨0, none, 0, [], Nat.zero_le _, rfl, rfl, Lib.hid rfl, Lib.hid (OwnS.nil _ _ _ _ _), Lib.hid (by simp), Lib.hid ⟨fun _ => rfl, fun _ => Stab.nil⟩, Lib.hid (Kp.refl _ _)⟩
      case round =>
        obtain ⟨i, ado, capo, R, hi, rfl, rfl, HRL, HOW, HRO, HST, HK⟩ := hrel
        obtain ⟨wo, rfl⟩ : ∃ wo : World, wo = wr := ⟨_, rfl⟩
        by_cases hlt : i < m
        · obtain ⟨b1, off1, xa, xn, xc, rfl, c0, hxn, hxr⟩ := (HR.out.keep0 K3.out).at' i (by rw [← HM.out]; exact hlt)
          replace c0 := HK.out.cell c0 (by simp)
          have hrk : rowOk sv (rowA hs i) := by rw [rowA_eq hs i (by rw [← HM.out]; exact hlt)]; exact HRK.out _ (List.getElem_mem _)
          have HTK : Hid ((hs.take (i + 1)).map (·.row) = (hs.take i).map (·.row) ++ [rowA hs i]) := Lib.hid (takeR (by rw [← HM.out]; exact hlt))
          generalize rowA hs i = r at *
          have HXN := Lib.hid hxn
          have HXR := Lib.hid hxr
          have HXK := Lib.hid hrk
          have HXO3 : Hid (HdOk w3 ⟨xa, xn, xc, r⟩) := Lib.hid ⟨hxn, hxr⟩
          have C1 := Lib.hid c0
          have PO : Hid (wo.cell? ⟨p, 0, none⟩ = some (.int .i64 sv)) := Lib.hid (HK.out.cell P3.out (by simp))
          clear hxn hxr hrk c0
          go_wp2_with fail
          go_loopw [11] (fun va wr => ∃ (j : Nat) (L Z : List Hd), va = .int .i64 j ∧ j ≤ i ∧ Hid (R = L ++ Z) ∧ Hid (L.length = j) ∧ Hid (sv < 0 → Z = []) ∧ Hid (∀ s : Nat, sv = s → ∀ z ∈ Z, ltr s r z.row = true) ∧ Hid (Kp [] wo wr)) (fun va _ => (intOf va).toNat)
          case atStart => exact ⟨i, R, [], rfl, Nat.le_refl _, Lib.hid (by simp), Lib.hid HRL.out.symm, Lib.hid (fun _ => rfl), Lib.hid (fun _ _ => by simp), Lib.hid (Kp.refl _ _)⟩
          case round =>
            obtain ⟨j, L, Z, rfl, hji, HRE, HJL, HZ0, HZL, HKI⟩ := hrel
            obtain ⟨wi, rfl⟩ : ∃ wi : World, wi = wr := ⟨_, rfl⟩
            go_upto_region 11 with (fail)
            go_cut [57] (fun v57 wx => ∃ q : Bool, v57 = .bool q ∧ Hid (q = true → ∃ (j' : Nat) (L' : List Hd) (y : Hd), j = j' + 1 ∧ L = L' ++ [y] ∧ 0 ≤ sv ∧ (∀ s : Nat, sv = s → ltr s r y.row = true)) ∧ Hid (q = false → (sv < 0 → Z = []) ∧ ∀ s : Nat, sv = s → (∀ z ∈ Z, ltr s r z.row = true) ∧ (∀ z ∈ L, ltr s r z.row = false)) ∧ Hid (Kp [] wi wx))
            case first =>
              rcases HB' with hneg | ⟨s, rfl, hsn⟩
              · have HNG := Lib.hid hneg
                have hge : decide ((0 : Int) ≤ sv) = false := by simp; omega
                clear hneg
                refine wp_region_K (by kernel_rfl) [.val (.pointer (some ⟨p, 0, none⟩)), .val (.int .i64 sv), .val (.bool false), .val (.bool false), .val (undef), .val (undef), .val ((.bool false)), .val ((.bool false)), .val (undef), .val (undef), .val (undef), .val (undef), .val (undef), .val (undef), .val (undef), .val (undef), .val (undef), .val (undef), .val (undef), .val (undef), .val (undef), .val (undef), .val (undef), .val (undef), .val (undef), .val (undef), .val ((.bool false))] [[(4, none)], [(31, some 0)], [(32, some 1)], [(33, some 2)], [(34, some 3)], [(34, some 3)], [(34, some 3), (36, some 5)], [(37, some 6)], [(38, some 7)], [(38, some 7)], [(38, some 7)], [(38, some 7)], [(38, some 7)], [(38, some 7)], [(38, some 7)], [(38, some 7)], [(38, some 7)], [(38, some 7)], [(38, some 7)], [(38, some 7)], [(38, some 7)], [(38, some 7)], [(38, some 7)], [(38, some 7)], [(38, some 7)], [(38, some 7)], [(38, some 7), (56, some 25)]] rfl (by kernel_rfl) ?_ ?_
                · refine ⟨?o0, ?o1, ?o2, ?o3, ?o4, ?o5, ?o6, ?o7, ?o8, ?o9, ?o10, ?o11, ?o12, ?o13, ?o14, ?o15, ?o16, ?o17, ?o18, ?o19, ?o20, ?o21, ?o22, ?o23, ?o24, ?o25, ?o26, trivial⟩
                  case o0 => intro aR wR hR; replace hR := hR.undrew; intro (h4 : aR.tmps[4]? = some (.pointer (some ⟨p, 0, none⟩))); exact exec_val (c := .pointer (some ⟨p, 0, none⟩)) (wanted_none rfl) (by go_simp) rfl
                  case o1 => intro aR wR hR; replace hR := hR.undrew; intro v31 h31 e31; replace e31 : v31 = .pointer (some ⟨p, 0, none⟩) := e31; subst e31; (have h1 := hR.cell (HKI.out.cell PO.out (by simp)) (by simp)); exact exec_val (c := .int .i64 sv) (wanted_none rfl) (by go_simp) rfl
                  case o2 => intro aR wR hR; replace hR := hR.undrew; intro v32 h32 e32; replace e32 : v32 = .int .i64 sv := e32; subst e32; exact exec_val (c := .bool false) (wanted_none rfl) (by go_simp) rfl
                  case o3 => intro aR wR hR; replace hR := hR.undrew; intro v33 h33 e33; replace e33 : v33 = .bool false := e33; subst e33; exact exec_val (c := .bool false) (wanted_none rfl) (by go_simp) rfl
                  case o4 => intro aR wR hR; replace hR := hR.undrew; intro v34 h34 e34; replace e34 : v34 = .bool false := e34; subst e34; exact exec_pass (wanted_not (b := true) (t := 34) rfl rfl h34) rfl
                  case o5 => intro aR wR hR; replace hR := hR.undrew; intro v34 h34 e34; replace e34 : v34 = .bool false := e34; subst e34; exact exec_pass (wanted_not (b := true) (t := 34) rfl rfl h34) rfl
                  case o6 => intro aR wR hR; replace hR := hR.undrew; intro v34 h34 e34; replace e34 : v34 = .bool false := e34; subst e34; intro v36 h36 e36; replace e36 : v36 = undef := e36; subst e36; exact exec_val (c := (.bool false)) (wanted_none rfl) (by go_simp) rfl
                  case o7 => intro aR wR hR; replace hR := hR.undrew; intro v37 h37 e37; replace e37 : v37 = (.bool false) := e37; subst e37; exact exec_val (c := (.bool false)) (wanted_none rfl) (by go_simp) rfl
                  case o8 => intro aR wR hR; replace hR := hR.undrew; intro v38 h38 e38; replace e38 : v38 = (.bool false) := e38; subst e38; exact exec_pass (wanted_not (b := true) (t := 38) rfl rfl h38) rfl
                  case o9 => intro aR wR hR; replace hR := hR.undrew; intro v38 h38 e38; replace e38 : v38 = (.bool false) := e38; subst e38; exact exec_pass (wanted_not (b := true) (t := 38) rfl rfl h38) rfl
                  case o10 => intro aR wR hR; replace hR := hR.undrew; intro v38 h38 e38; replace e38 : v38 = (.bool false) := e38; subst e38; exact exec_pass (wanted_not (b := true) (t := 38) rfl rfl h38) rfl
                  case o11 => intro aR wR hR; replace hR := hR.undrew; intro v38 h38 e38; replace e38 : v38 = (.bool false) := e38; subst e38; exact exec_pass (wanted_not (b := true) (t := 38) rfl rfl h38) rfl
                  case o12 => intro aR wR hR; replace hR := hR.undrew; intro v38 h38 e38; replace e38 : v38 = (.bool false) := e38; subst e38; exact exec_pass (wanted_not (b := true) (t := 38) rfl rfl h38) rfl
                  case o13 => intro aR wR hR; replace hR := hR.undrew; intro v38 h38 e38; replace e38 : v38 = (.bool false) := e38; subst e38; exact exec_pass (wanted_not (b := true) (t := 38) rfl rfl h38) rfl
                  case o14 => intro aR wR hR; replace hR := hR.undrew; intro v38 h38 e38; replace e38 : v38 = (.bool false) := e38; subst e38; exact exec_pass (wanted_not (b := true) (t := 38) rfl rfl h38) rfl
                  case o15 => intro aR wR hR; replace hR := hR.undrew; intro v38 h38 e38; replace e38 : v38 = (.bool false) := e38; subst e38; exact exec_pass (wanted_not (b := true) (t := 38) rfl rfl h38) rfl
                  case o16 => intro aR wR hR; replace hR := hR.undrew; intro v38 h38 e38; replace e38 : v38 = (.bool false) := e38; subst e38; exact exec_pass (wanted_not (b := true) (t := 38) rfl rfl h38) rfl
                  case o17 => intro aR wR hR; replace hR := hR.undrew; intro v38 h38 e38; replace e38 : v38 = (.bool false) := e38; subst e38; exact exec_pass (wanted_not (b := true) (t := 38) rfl rfl h38) rfl
                  case o18 => intro aR wR hR; replace hR := hR.undrew; intro v38 h38 e38; replace e38 : v38 = (.bool false) := e38; subst e38; exact exec_pass (wanted_not (b := true) (t := 38) rfl rfl h38) rfl
                  case o19 => intro aR wR hR; replace hR := hR.undrew; intro v38 h38 e38; replace e38 : v38 = (.bool false) := e38; subst e38; exact exec_pass (wanted_not (b := true) (t := 38) rfl rfl h38) rfl
                  case o20 => intro aR wR hR; replace hR := hR.undrew; intro v38 h38 e38; replace e38 : v38 = (.bool false) := e38; subst e38; exact exec_pass (wanted_not (b := true) (t := 38) rfl rfl h38) rfl
                  case o21 => intro aR wR hR; replace hR := hR.undrew; intro v38 h38 e38; replace e38 : v38 = (.bool false) := e38; subst e38; exact exec_pass (wanted_not (b := true) (t := 38) rfl rfl h38) rfl
                  case o22 => intro aR wR hR; replace hR := hR.undrew; intro v38 h38 e38; replace e38 : v38 = (.bool false) := e38; subst e38; exact exec_pass (wanted_not (b := true) (t := 38) rfl rfl h38) rfl
                  case o23 => intro aR wR hR; replace hR := hR.undrew; intro v38 h38 e38; replace e38 : v38 = (.bool false) := e38; subst e38; exact exec_pass (wanted_not (b := true) (t := 38) rfl rfl h38) rfl
                  case o24 => intro aR wR hR; replace hR := hR.undrew; intro v38 h38 e38; replace e38 : v38 = (.bool false) := e38; subst e38; exact exec_pass (wanted_not (b := true) (t := 38) rfl rfl h38) rfl
                  case o25 => intro aR wR hR; replace hR := hR.undrew; intro v38 h38 e38; replace e38 : v38 = (.bool false) := e38; subst e38; exact exec_pass (wanted_not (b := true) (t := 38) rfl rfl h38) rfl
                  case o26 => intro aR wR hR; replace hR := hR.undrew; intro v38 h38 e38; replace e38 : v38 = (.bool false) := e38; subst e38; intro v56 h56 e56; replace e56 : v56 = undef := e56; subst e56; exact exec_val (c := (.bool false)) (wanted_none rfl) (by go_simp) rfl
                · intro vs wR hR hV
                  obtain ⟨e0, e1, e2, e3, e4, e5, e6, e7, e8, e9, e10, e11, e12, e13, e14, e15, e16, e17, e18, e19, e20, e21, e22, e23, e24, e25, e26, -⟩ := hV
                  replace e0 : vs 0 = .pointer (some ⟨p, 0, none⟩) := e0
                  replace e1 : vs 1 = .int .i64 sv := e1
                  replace e2 : vs 2 = .bool false := e2
                  replace e3 : vs 3 = .bool false := e3
                  replace e4 : vs 4 = undef := e4
                  replace e5 : vs 5 = undef := e5
                  replace e6 : vs 6 = (.bool false) := e6
                  replace e7 : vs 7 = (.bool false) := e7
                  replace e8 : vs 8 = undef := e8
                  replace e9 : vs 9 = undef := e9
                  replace e10 : vs 10 = undef := e10
                  replace e11 : vs 11 = undef := e11
                  replace e12 : vs 12 = undef := e12
                  replace e13 : vs 13 = undef := e13
                  replace e14 : vs 14 = undef := e14
                  replace e15 : vs 15 = undef := e15
                  replace e16 : vs 16 = undef := e16
                  replace e17 : vs 17 = undef := e17
                  replace e18 : vs 18 = undef := e18
                  replace e19 : vs 19 = undef := e19
                  replace e20 : vs 20 = undef := e20
                  replace e21 : vs 21 = undef := e21
                  replace e22 : vs 22 = undef := e22
                  replace e23 : vs 23 = undef := e23
                  replace e24 : vs 24 = undef := e24
                  replace e25 : vs 25 = undef := e25
                  replace e26 : vs 26 = (.bool false) := e26
                  simp only [putAll, e0, e1, e2, e3, e4, e5, e6, e7, e8, e9, e10, e11, e12, e13, e14, e15, e16, e17, e18, e19, e20, e21, e22, e23, e24, e25, e26, Nat.reduceAdd, Nat.zero_add]
                  clear e0 e1 e2 e3 e4 e5 e6 e7 e8 e9 e10 e11 e12 e13 e14 e15 e16 e17 e18 e19 e20 e21 e22 e23 e24 e25 e26
                  try simp only [List.setIfInBounds_toArray, List.set_cons_succ, List.set_cons_zero]
                  go_wp2_with fail
                  go_meet
                  exact ⟨false, rfl, Lib.hid (by simp), Lib.hid (fun _ => ⟨HZ0.out, fun s hs => by have := HNG.out; omega⟩), Lib.hid hR⟩
              · have hge : decide ((0 : Int) ≤ (s : Int)) = true := by simp
                by_cases hj0 : j = 0
                · subst hj0
                  refine wp_region_K (by kernel_rfl) [.val (.pointer (some ⟨p, 0, none⟩)), .val (.int .i64 (s : Int)), .val (.bool true), .val (.bool true), .val (.int .i64 (((0 : Nat)) : Int)), .val (.bool false), .val (.bool false), .val (.bool false), .val (undef), .val (undef), .val (undef), .val (undef), .val (undef), .val (undef), .val (undef), .val (undef), .val (undef), .val (undef), .val (undef), .val (undef), .val (undef), .val (undef), .val (undef), .val (undef), .val (undef), .val (undef), .val ((.bool false))] [[(4, none)], [(31, some 0)], [(32, some 1)], [(33, some 2)], [(34, some 3), (11, none)], [(34, some 3), (35, some 4)], [(34, some 3), (36, some 5)], [(37, some 6)], [(38, some 7)], [(38, some 7)], [(38, some 7)], [(38, some 7)], [(38, some 7)], [(38, some 7)], [(38, some 7)], [(38, some 7)], [(38, some 7)], [(38, some 7)], [(38, some 7)], [(38, some 7)], [(38, some 7)], [(38, some 7)], [(38, some 7)], [(38, some 7)], [(38, some 7)], [(38, some 7)], [(38, some 7), (56, some 25)]] rfl (by kernel_rfl) ?_ ?_
                  · refine ⟨?o0, ?o1, ?o2, ?o3, ?o4, ?o5, ?o6, ?o7, ?o8, ?o9, ?o10, ?o11, ?o12, ?o13, ?o14, ?o15, ?o16, ?o17, ?o18, ?o19, ?o20, ?o21, ?o22, ?o23, ?o24, ?o25, ?o26, trivial⟩
                    case o0 => intro aR wR hR; replace hR := hR.undrew; intro (h4 : aR.tmps[4]? = some (.pointer (some ⟨p, 0, none⟩))); exact exec_val (c := .pointer (some ⟨p, 0, none⟩)) (wanted_none rfl) (by go_simp) rfl
                    case o1 => intro aR wR hR; replace hR := hR.undrew; intro v31 h31 e31; replace e31 : v31 = .pointer (some ⟨p, 0, none⟩) := e31; subst e31; (have h1 := hR.cell (HKI.out.cell PO.out (by simp)) (by simp)); exact exec_val (c := .int .i64 (s : Int)) (wanted_none rfl) (by go_simp) rfl
                    case o2 => intro aR wR hR; replace hR := hR.undrew; intro v32 h32 e32; replace e32 : v32 = .int .i64 (s : Int) := e32; subst e32; exact exec_val (c := .bool true) (wanted_none rfl) (by go_simp) rfl
                    case o3 => intro aR wR hR; replace hR := hR.undrew; intro v33 h33 e33; replace e33 : v33 = .bool true := e33; subst e33; exact exec_val (c := .bool true) (wanted_none rfl) (by go_simp) rfl
                    case o4 => intro aR wR hR; replace hR := hR.undrew; intro v34 h34 e34; replace e34 : v34 = .bool true := e34; subst e34; intro (h11 : aR.tmps[11]? = some (.int .i64 (((0 : Nat)) : Int))); exact exec_val (c := .int .i64 (((0 : Nat)) : Int)) (wanted_yes (b := true) (t := 34) rfl rfl h34) (by go_simp) rfl
                    case o5 => intro aR wR hR; replace hR := hR.undrew; intro v34 h34 e34; replace e34 : v34 = .bool true := e34; subst e34; intro v35 h35 e35; replace e35 : v35 = .int .i64 (((0 : Nat)) : Int) := e35; subst e35; exact exec_val (c := .bool false) (wanted_yes (b := true) (t := 34) rfl rfl h34) (by go_simp) rfl
                    case o6 => intro aR wR hR; replace hR := hR.undrew; intro v34 h34 e34; replace e34 : v34 = .bool true := e34; subst e34; intro v36 h36 e36; replace e36 : v36 = .bool false := e36; subst e36; exact exec_val (c := .bool false) (wanted_none rfl) (by go_simp) rfl
                    case o7 => intro aR wR hR; replace hR := hR.undrew; intro v37 h37 e37; replace e37 : v37 = .bool false := e37; subst e37; exact exec_val (c := .bool false) (wanted_none rfl) (by go_simp) rfl
                    case o8 => intro aR wR hR; replace hR := hR.undrew; intro v38 h38 e38; replace e38 : v38 = .bool false := e38; subst e38; exact exec_pass (wanted_not (b := true) (t := 38) rfl rfl h38) rfl
                    case o9 => intro aR wR hR; replace hR := hR.undrew; intro v38 h38 e38; replace e38 : v38 = .bool false := e38; subst e38; exact exec_pass (wanted_not (b := true) (t := 38) rfl rfl h38) rfl
                    case o10 => intro aR wR hR; replace hR := hR.undrew; intro v38 h38 e38; replace e38 : v38 = .bool false := e38; subst e38; exact exec_pass (wanted_not (b := true) (t := 38) rfl rfl h38) rfl
                    case o11 => intro aR wR hR; replace hR := hR.undrew; intro v38 h38 e38; replace e38 : v38 = .bool false := e38; subst e38; exact exec_pass (wanted_not (b := true) (t := 38) rfl rfl h38) rfl
                    case o12 => intro aR wR hR; replace hR := hR.undrew; intro v38 h38 e38; replace e38 : v38 = .bool false := e38; subst e38; exact exec_pass (wanted_not (b := true) (t := 38) rfl rfl h38) rfl
                    case o13 => intro aR wR hR; replace hR := hR.undrew; intro v38 h38 e38; replace e38 : v38 = .bool false := e38; subst e38; exact exec_pass (wanted_not (b := true) (t := 38) rfl rfl h38) rfl
                    case o14 => intro aR wR hR; replace hR := hR.undrew; intro v38 h38 e38; replace e38 : v38 = .bool false := e38; subst e38; exact exec_pass (wanted_not (b := true) (t := 38) rfl rfl h38) rfl
                    case o15 => intro aR wR hR; replace hR := hR.undrew; intro v38 h38 e38; replace e38 : v38 = .bool false := e38; subst e38; exact exec_pass (wanted_not (b := true) (t := 38) rfl rfl h38) rfl
                    case o16 => intro aR wR hR; replace hR := hR.undrew; intro v38 h38 e38; replace e38 : v38 = .bool false := e38; subst e38; exact exec_pass (wanted_not (b := true) (t := 38) rfl rfl h38) rfl
                    case o17 => intro aR wR hR; replace hR := hR.undrew; intro v38 h38 e38; replace e38 : v38 = .bool false := e38; subst e38; exact exec_pass (wanted_not (b := true) (t := 38) rfl rfl h38) rfl
                    case o18 => intro aR wR hR; replace hR := hR.undrew; intro v38 h38 e38; replace e38 : v38 = .bool false := e38; subst e38; exact exec_pass (wanted_not (b := true) (t := 38) rfl rfl h38) rfl
                    case o19 => intro aR wR hR; replace hR := hR.undrew; intro v38 h38 e38; replace e38 : v38 = .bool false := e38; subst e38; exact exec_pass (wanted_not (b := true) (t := 38) rfl rfl h38) rfl
                    case o20 => intro aR wR hR; replace hR := hR.undrew; intro v38 h38 e38; replace e38 : v38 = .bool false := e38; subst e38; exact exec_pass (wanted_not (b := true) (t := 38) rfl rfl h38) rfl
                    case o21 => intro aR wR hR; replace hR := hR.undrew; intro v38 h38 e38; replace e38 : v38 = .bool false := e38; subst e38; exact exec_pass (wanted_not (b := true) (t := 38) rfl rfl h38) rfl
                    case o22 => intro aR wR hR; replace hR := hR.undrew; intro v38 h38 e38; replace e38 : v38 = .bool false := e38; subst e38; exact exec_pass (wanted_not (b := true) (t := 38) rfl rfl h38) rfl
                    case o23 => intro aR wR hR; replace hR := hR.undrew; intro v38 h38 e38; replace e38 : v38 = .bool false := e38; subst e38; exact exec_pass (wanted_not (b := true) (t := 38) rfl rfl h38) rfl
                    case o24 => intro aR wR hR; replace hR := hR.undrew; intro v38 h38 e38; replace e38 : v38 = .bool false := e38; subst e38; exact exec_pass (wanted_not (b := true) (t := 38) rfl rfl h38) rfl
                    case o25 => intro aR wR hR; replace hR := hR.undrew; intro v38 h38 e38; replace e38 : v38 = .bool false := e38; subst e38; exact exec_pass (wanted_not (b := true) (t := 38) rfl rfl h38) rfl
                    case o26 => intro aR wR hR; replace hR := hR.undrew; intro v38 h38 e38; replace e38 : v38 = .bool false := e38; subst e38; intro v56 h56 e56; replace e56 : v56 = undef := e56; subst e56; exact exec_val (c := (.bool false)) (wanted_none rfl) (by go_simp) rfl
                  · intro vs wR hR hV
                    obtain ⟨e0, e1, e2, e3, e4, e5, e6, e7, e8, e9, e10, e11, e12, e13, e14, e15, e16, e17, e18, e19, e20, e21, e22, e23, e24, e25, e26, -⟩ := hV
                    replace e0 : vs 0 = .pointer (some ⟨p, 0, none⟩) := e0
                    replace e1 : vs 1 = .int .i64 (s : Int) := e1
                    replace e2 : vs 2 = .bool true := e2
                    replace e3 : vs 3 = .bool true := e3
                    replace e4 : vs 4 = .int .i64 (((0 : Nat)) : Int) := e4
                    replace e5 : vs 5 = .bool false := e5
                    replace e6 : vs 6 = .bool false := e6
                    replace e7 : vs 7 = .bool false := e7
                    replace e8 : vs 8 = undef := e8
                    replace e9 : vs 9 = undef := e9
                    replace e10 : vs 10 = undef := e10
                    replace e11 : vs 11 = undef := e11
                    replace e12 : vs 12 = undef := e12
                    replace e13 : vs 13 = undef := e13
                    replace e14 : vs 14 = undef := e14
                    replace e15 : vs 15 = undef := e15
                    replace e16 : vs 16 = undef := e16
                    replace e17 : vs 17 = undef := e17
                    replace e18 : vs 18 = undef := e18
                    replace e19 : vs 19 = undef := e19
                    replace e20 : vs 20 = undef := e20
                    replace e21 : vs 21 = undef := e21
                    replace e22 : vs 22 = undef := e22
                    replace e23 : vs 23 = undef := e23
                    replace e24 : vs 24 = undef := e24
                    replace e25 : vs 25 = undef := e25
                    replace e26 : vs 26 = (.bool false) := e26
                    simp only [putAll, e0, e1, e2, e3, e4, e5, e6, e7, e8, e9, e10, e11, e12, e13, e14, e15, e16, e17, e18, e19, e20, e21, e22, e23, e24, e25, e26, Nat.reduceAdd, Nat.zero_add]
                    clear e0 e1 e2 e3 e4 e5 e6 e7 e8 e9 e10 e11 e12 e13 e14 e15 e16 e17 e18 e19 e20 e21 e22 e23 e24 e25 e26
                    try simp only [List.setIfInBounds_toArray, List.set_cons_succ, List.set_cons_zero]
                    go_wp2_with fail
                    go_meet
                    refine ⟨false, rfl, Lib.hid (by simp), Lib.hid (fun _ => ⟨HZ0.out, fun s hs => ⟨HZL.out s hs, ?_⟩⟩), Lib.hid hR⟩
                    have : L = [] := List.eq_nil_of_length_eq_zero HJL.out
                    subst this; simp
                · obtain ⟨jj, rfl⟩ : ∃ jj, j = jj + 1 := ⟨j - 1, by omega⟩
                  obtain ⟨L', y, hL⟩ : ∃ L' y, L = L' ++ [y] := by
                    have hne : L ≠ [] := by intro hh; have h2 := HJL.out; rw [hh] at h2; simp at h2
                    exact ⟨L.dropLast, L.getLast hne, (List.dropLast_concat_getLast hne).symm⟩
                  subst hL
                  have HL' : Hid (L'.length = jj) := Lib.hid (by have := HJL.out; simpa using this)
                  have hyR : y ∈ R := by rw [HRE.out]; simp
                  obtain ⟨⟨hyn, hyr⟩, hyk⟩ := HRO.out y hyR
                  have hRd := HOW.out.rd hlies
                  rw [HRE.out, List.append_assoc] at hRd
                  obtain ⟨b2, off2, hado, c2⟩ := RdS.mid hRd
                  rw [HL'.out] at c2
                  subst hado
                  have C2 := Lib.hid c2
                  have hsx : s < r.length := HXK.out.1 s rfl
                  have hsy : s < y.row.length := hyk.1 s rfl
                  have hsxn : s < xn := by rw [HXN.out]; exact hsx
                  have hsyn : s < y.n := by rw [hyn]; exact hsy
                  obtain ⟨b3, off3, hxa, -⟩ := HXR.out.atV s hsx
                  obtain ⟨b4, off4, hya, -⟩ := hyr.atV s hsy
                  subst hxa
                  have CA : Hid (∀ W, Kp [] wo W → W.cell? ⟨b3, off3 + s * 3, none⟩ = some (.int .u8 (atV r s).k) ∧ W.cell? ⟨b3, off3 + s * 3 + 1, none⟩ = some (.int .i64 (atV r s).n) ∧ W.cell? ⟨b3, off3 + s * 3 + 2, none⟩ = some (.string (atV r s).s)) := Lib.hid (fun W hW => by
                    obtain ⟨b5, off5, h4, h5⟩ := (HXR.out.keep0 (HK.out.tr hW)).atV s hsx
                    cases h4; exact h5)
                  have CB : Hid (∀ W, Kp [] wo W → W.cell? ⟨b4, off4 + s * 3, none⟩ = some (.int .u8 (atV y.row s).k) ∧ W.cell? ⟨b4, off4 + s * 3 + 1, none⟩ = some (.int .i64 (atV y.row s).n) ∧ W.cell? ⟨b4, off4 + s * 3 + 2, none⟩ = some (.string (atV y.row s).s)) := Lib.hid (fun W hW => by
                    obtain ⟨b5, off5, h4, h5⟩ := ((hyr.keep0 (HK.out.tr hW))).atV s hsy
                    rw [hya] at h4
                    cases h4; exact h5)
                  have HC7 : Hid (∀ W, Calls Try.prog 36 #[.agg #[.int .u8 (atV r s).k, .int .i64 (atV r s).n, .string (atV r s).s], .agg #[.int .u8 (atV y.row s).k, .int .i64 (atV y.row s).n, .string (atV y.row s).s]] W fun e w' => e = .returned (.bool (ltr s r y.row)) ∧ Kp [] W w') := Lib.hid (fun W => by
                    have := r10Less_any (atV r s).k (atV r s).n (atV r s).s (atV y.row s).k (atV y.row s).n (atV y.row s).s W (HXK.out.size hsx) (hyk.size hsy)
                    rw [lessV_cV] at this; exact this)
                  have HYA : Hid (y.ad = some ⟨b4, off4, none⟩) := Lib.hid hya
                  have HT1 : Hid (ltr s r y.row = true → ∃ (j' : Nat) (L'' : List Hd) (y' : Hd), jj + 1 = j' + 1 ∧ L' ++ [y] = L'' ++ [y'] ∧ 0 ≤ (s : Int) ∧ (∀ s' : Nat, (s : Int) = s' → ltr s' r y'.row = true)) := Lib.hid (fun h => ⟨jj, L', y, rfl, rfl, by omega, fun s' hs' => by rw [show s' = s by omega]; exact h⟩)
                  have HT2 : Hid (ltr s r y.row = false → ((s : Int) < 0 → Z = []) ∧ ∀ s' : Nat, (s : Int) = s' → (∀ z ∈ Z, ltr s' r z.row = true) ∧ (∀ z ∈ L' ++ [y], ltr s' r z.row = false)) := Lib.hid (fun h => ⟨HZ0.out, fun s' hs' => by
                    obtain rfl : s = s' := by omega
                    have hst := HST.out
                    rw [HRE.out] at hst
                    exact ⟨HZL.out s rfl, sort_stop rfl hst h⟩⟩)
                  generalize ltr s r y.row = q at *
                  obtain ⟨ya, yn, yc, yr⟩ := y
                  dsimp only at CB HC7 C2 hsyn HYA
                  obtain rfl := HYA.out
                  generalize atV r s = vx at *
                  generalize atV yr s = vy at *
                  have hjj : jj < i := by omega
                  have hjb : (jj : Int) ≤ 1000000 := by omega
                  have hgj : decide ((0 : Int) < ((jj + 1 : Nat) : Int)) = true := by simp
                  have hjs : ((jj + 1 : Nat) : Int) - 1 = (jj : Int) := by omega
                  clear hyR hyn hyr hyk hRd c2 hya hsx hsy HYA
                  refine wp_region_K (by kernel_rfl) [.val (.pointer (some ⟨p, 0, none⟩)), .val (.int .i64 (s : Int)), .val (.bool true), .val (.bool true), .val (.int .i64 ((jj + 1 : Nat) : Int)), .val (.bool true), .val (.bool true), .val (.bool true), .val (.slice (some ⟨b1, off1, none⟩) m rc), .val (.int .i64 (i : Int)), .val (.pointer (some ⟨b1, off1 + i, none⟩)), .val (.slice (some ⟨b3, off3, none⟩) xn xc), .val (.pointer (some ⟨p, 0, none⟩)), .val (.int .i64 (s : Int)), .val (.pointer (some ⟨b3, off3 + s * 3, none⟩)), .val (.agg #[.int .u8 vx.k, .int .i64 vx.n, .string vx.s]), .val (.slice (some ⟨b2, off2, none⟩) i capo), .val (.int .i64 ((jj + 1 : Nat) : Int)), .val (.int .i64 (jj : Int)), .val (.pointer (some ⟨b2, off2 + jj, none⟩)), .val (.slice (some ⟨b4, off4, none⟩) yn yc), .val (.pointer (some ⟨p, 0, none⟩)), .val (.int .i64 (s : Int)), .val (.pointer (some ⟨b4, off4 + s * 3, none⟩)), .val (.agg #[.int .u8 vy.k, .int .i64 vy.n, .string vy.s]), .val (.bool q), .val (.bool q)] [[(4, none)], [(31, some 0)], [(32, some 1)], [(33, some 2)], [(34, some 3), (11, none)], [(34, some 3), (35, some 4)], [(34, some 3), (36, some 5)], [(37, some 6)], [(38, some 7), (2, none)], [(38, some 7), (10, none)], [(38, some 7), (39, some 8), (40, some 9)], [(38, some 7), (41, some 10)], [(38, some 7), (4, none)], [(38, some 7), (43, some 12)], [(38, some 7), (42, some 11), (44, some 13)], [(38, some 7), (45, some 14)], [(38, some 7), (9, none)], [(38, some 7), (11, none)], [(38, some 7), (48, some 17)], [(38, some 7), (47, some 16), (49, some 18)], [(38, some 7), (50, some 19)], [(38, some 7), (4, none)], [(38, some 7), (52, some 21)], [(38, some 7), (51, some 20), (53, some 22)], [(38, some 7), (54, some 23)], [(38, some 7), (46, some 15), (55, some 24)], [(38, some 7), (56, some 25)]] rfl (by kernel_rfl) ?_ ?_
                  · refine ⟨?o0, ?o1, ?o2, ?o3, ?o4, ?o5, ?o6, ?o7, ?o8, ?o9, ?o10, ?o11, ?o12, ?o13, ?o14, ?o15, ?o16, ?o17, ?o18, ?o19, ?o20, ?o21, ?o22, ?o23, ?o24, ?o25, ?o26, trivial⟩
                    case o0 => intro aR wR hR; replace hR := hR.undrew; intro (h4 : aR.tmps[4]? = some (.pointer (some ⟨p, 0, none⟩))); exact exec_val (c := .pointer (some ⟨p, 0, none⟩)) (wanted_none rfl) (by go_simp) rfl
                    case o1 => intro aR wR hR; replace hR := hR.undrew; intro v31 h31 e31; replace e31 : v31 = .pointer (some ⟨p, 0, none⟩) := e31; subst e31; (have h1 := hR.cell (HKI.out.cell PO.out (by simp)) (by simp)); exact exec_val (c := .int .i64 (s : Int)) (wanted_none rfl) (by go_simp) rfl
                    case o2 => intro aR wR hR; replace hR := hR.undrew; intro v32 h32 e32; replace e32 : v32 = .int .i64 (s : Int) := e32; subst e32; exact exec_val (c := .bool true) (wanted_none rfl) (by go_simp) rfl
                    case o3 => intro aR wR hR; replace hR := hR.undrew; intro v33 h33 e33; replace e33 : v33 = .bool true := e33; subst e33; exact exec_val (c := .bool true) (wanted_none rfl) (by go_simp) rfl
                    case o4 => intro aR wR hR; replace hR := hR.undrew; intro v34 h34 e34; replace e34 : v34 = .bool true := e34; subst e34; intro (h11 : aR.tmps[11]? = some (.int .i64 ((jj + 1 : Nat) : Int))); exact exec_val (c := .int .i64 ((jj + 1 : Nat) : Int)) (wanted_yes (b := true) (t := 34) rfl rfl h34) (by go_simp) rfl
                    case o5 => intro aR wR hR; replace hR := hR.undrew; intro v34 h34 e34; replace e34 : v34 = .bool true := e34; subst e34; intro v35 h35 e35; replace e35 : v35 = .int .i64 ((jj + 1 : Nat) : Int) := e35; subst e35; exact exec_val (c := .bool true) (wanted_yes (b := true) (t := 34) rfl rfl h34) (by go_simp) rfl
                    case o6 => intro aR wR hR; replace hR := hR.undrew; intro v34 h34 e34; replace e34 : v34 = .bool true := e34; subst e34; intro v36 h36 e36; replace e36 : v36 = .bool true := e36; subst e36; exact exec_val (c := .bool true) (wanted_none rfl) (by go_simp) rfl
                    case o7 => intro aR wR hR; replace hR := hR.undrew; intro v37 h37 e37; replace e37 : v37 = .bool true := e37; subst e37; exact exec_val (c := .bool true) (wanted_none rfl) (by go_simp) rfl
                    case o8 => intro aR wR hR; replace hR := hR.undrew; intro v38 h38 e38; replace e38 : v38 = .bool true := e38; subst e38; intro (h2 : aR.tmps[2]? = some (.slice (some ⟨b1, off1, none⟩) m rc)); exact exec_val (c := .slice (some ⟨b1, off1, none⟩) m rc) (wanted_yes (b := true) (t := 38) rfl rfl h38) (by go_simp) rfl
                    case o9 => intro aR wR hR; replace hR := hR.undrew; intro v38 h38 e38; replace e38 : v38 = .bool true := e38; subst e38; intro (h10 : aR.tmps[10]? = some (.int .i64 (i : Int))); exact exec_val (c := .int .i64 (i : Int)) (wanted_yes (b := true) (t := 38) rfl rfl h38) (by go_simp) rfl
                    case o10 => intro aR wR hR; replace hR := hR.undrew; intro v38 h38 e38; replace e38 : v38 = .bool true := e38; subst e38; intro v39 h39 e39; replace e39 : v39 = .slice (some ⟨b1, off1, none⟩) m rc := e39; subst e39; intro v40 h40 e40; replace e40 : v40 = .int .i64 (i : Int) := e40; subst e40; exact exec_val (c := .pointer (some ⟨b1, off1 + i, none⟩)) (wanted_yes (b := true) (t := 38) rfl rfl h38) (by go_simp) rfl
                    case o11 => intro aR wR hR; replace hR := hR.undrew; intro v38 h38 e38; replace e38 : v38 = .bool true := e38; subst e38; intro v41 h41 e41; replace e41 : v41 = .pointer (some ⟨b1, off1 + i, none⟩) := e41; subst e41; (have h1 := hR.cell (HKI.out.cell C1.out (by simp)) (by simp)); exact exec_val (c := .slice (some ⟨b3, off3, none⟩) xn xc) (wanted_yes (b := true) (t := 38) rfl rfl h38) (by go_simp) rfl
                    case o12 => intro aR wR hR; replace hR := hR.undrew; intro v38 h38 e38; replace e38 : v38 = .bool true := e38; subst e38; intro (h4 : aR.tmps[4]? = some (.pointer (some ⟨p, 0, none⟩))); exact exec_val (c := .pointer (some ⟨p, 0, none⟩)) (wanted_yes (b := true) (t := 38) rfl rfl h38) (by go_simp) rfl
                    case o13 => intro aR wR hR; replace hR := hR.undrew; intro v38 h38 e38; replace e38 : v38 = .bool true := e38; subst e38; intro v43 h43 e43; replace e43 : v43 = .pointer (some ⟨p, 0, none⟩) := e43; subst e43; (have h1 := hR.cell (HKI.out.cell PO.out (by simp)) (by simp)); exact exec_val (c := .int .i64 (s : Int)) (wanted_yes (b := true) (t := 38) rfl rfl h38) (by go_simp) rfl
                    case o14 => intro aR wR hR; replace hR := hR.undrew; intro v38 h38 e38; replace e38 : v38 = .bool true := e38; subst e38; intro v42 h42 e42; replace e42 : v42 = .slice (some ⟨b3, off3, none⟩) xn xc := e42; subst e42; intro v44 h44 e44; replace e44 : v44 = .int .i64 (s : Int) := e44; subst e44; exact exec_val (c := .pointer (some ⟨b3, off3 + s * 3, none⟩)) (wanted_yes (b := true) (t := 38) rfl rfl h38) (by go_simp) rfl
                    case o15 => intro aR wR hR; replace hR := hR.undrew; intro v38 h38 e38; replace e38 : v38 = .bool true := e38; subst e38; intro v45 h45 e45; replace e45 : v45 = .pointer (some ⟨b3, off3 + s * 3, none⟩) := e45; subst e45; (obtain ⟨h1, h2, h3⟩ := CA.out wR (HKI.out.tr hR)); exact exec_val (c := .agg #[.int .u8 vx.k, .int .i64 vx.n, .string vx.s]) (wanted_yes (b := true) (t := 38) rfl rfl h38) (by go_simp) rfl
                    case o16 => intro aR wR hR; replace hR := hR.undrew; intro v38 h38 e38; replace e38 : v38 = .bool true := e38; subst e38; intro (h9 : aR.tmps[9]? = some (.slice (some ⟨b2, off2, none⟩) i capo)); exact exec_val (c := .slice (some ⟨b2, off2, none⟩) i capo) (wanted_yes (b := true) (t := 38) rfl rfl h38) (by go_simp) rfl
                    case o17 => intro aR wR hR; replace hR := hR.undrew; intro v38 h38 e38; replace e38 : v38 = .bool true := e38; subst e38; intro (h11 : aR.tmps[11]? = some (.int .i64 ((jj + 1 : Nat) : Int))); exact exec_val (c := .int .i64 ((jj + 1 : Nat) : Int)) (wanted_yes (b := true) (t := 38) rfl rfl h38) (by go_simp) rfl
                    case o18 => intro aR wR hR; replace hR := hR.undrew; intro v38 h38 e38; replace e38 : v38 = .bool true := e38; subst e38; intro v48 h48 e48; replace e48 : v48 = .int .i64 ((jj + 1 : Nat) : Int) := e48; subst e48; (have hwj : IntKind.i64.wrap (jj : Int) = (jj : Int) := IntWalk.i64_in _ (by omega)); exact exec_val (c := .int .i64 (jj : Int)) (wanted_yes (b := true) (t := 38) rfl rfl h38) (by go_simp) rfl
                    case o19 => intro aR wR hR; replace hR := hR.undrew; intro v38 h38 e38; replace e38 : v38 = .bool true := e38; subst e38; intro v47 h47 e47; replace e47 : v47 = .slice (some ⟨b2, off2, none⟩) i capo := e47; subst e47; intro v49 h49 e49; replace e49 : v49 = .int .i64 (jj : Int) := e49; subst e49; exact exec_val (c := .pointer (some ⟨b2, off2 + jj, none⟩)) (wanted_yes (b := true) (t := 38) rfl rfl h38) (by go_simp) rfl
                    case o20 => intro aR wR hR; replace hR := hR.undrew; intro v38 h38 e38; replace e38 : v38 = .bool true := e38; subst e38; intro v50 h50 e50; replace e50 : v50 = .pointer (some ⟨b2, off2 + jj, none⟩) := e50; subst e50; (have h1 := hR.cell (HKI.out.cell C2.out (by simp)) (by simp)); exact exec_val (c := .slice (some ⟨b4, off4, none⟩) yn yc) (wanted_yes (b := true) (t := 38) rfl rfl h38) (by go_simp) rfl
                    case o21 => intro aR wR hR; replace hR := hR.undrew; intro v38 h38 e38; replace e38 : v38 = .bool true := e38; subst e38; intro (h4 : aR.tmps[4]? = some (.pointer (some ⟨p, 0, none⟩))); exact exec_val (c := .pointer (some ⟨p, 0, none⟩)) (wanted_yes (b := true) (t := 38) rfl rfl h38) (by go_simp) rfl
                    case o22 => intro aR wR hR; replace hR := hR.undrew; intro v38 h38 e38; replace e38 : v38 = .bool true := e38; subst e38; intro v52 h52 e52; replace e52 : v52 = .pointer (some ⟨p, 0, none⟩) := e52; subst e52; (have h1 := hR.cell (HKI.out.cell PO.out (by simp)) (by simp)); exact exec_val (c := .int .i64 (s : Int)) (wanted_yes (b := true) (t := 38) rfl rfl h38) (by go_simp) rfl
                    case o23 => intro aR wR hR; replace hR := hR.undrew; intro v38 h38 e38; replace e38 : v38 = .bool true := e38; subst e38; intro v51 h51 e51; replace e51 : v51 = .slice (some ⟨b4, off4, none⟩) yn yc := e51; subst e51; intro v53 h53 e53; replace e53 : v53 = .int .i64 (s : Int) := e53; subst e53; exact exec_val (c := .pointer (some ⟨b4, off4 + s * 3, none⟩)) (wanted_yes (b := true) (t := 38) rfl rfl h38) (by go_simp) rfl
                    case o24 => intro aR wR hR; replace hR := hR.undrew; intro v38 h38 e38; replace e38 : v38 = .bool true := e38; subst e38; intro v54 h54 e54; replace e54 : v54 = .pointer (some ⟨b4, off4 + s * 3, none⟩) := e54; subst e54; (obtain ⟨h1, h2, h3⟩ := CB.out wR (HKI.out.tr hR)); exact exec_val (c := .agg #[.int .u8 vy.k, .int .i64 vy.n, .string vy.s]) (wanted_yes (b := true) (t := 38) rfl rfl h38) (by go_simp) rfl
                    case o25 => intro aR wR hR; replace hR := hR.undrew; intro v38 h38 e38; replace e38 : v38 = .bool true := e38; subst e38; intro v46 h46 e46; replace e46 : v46 = .agg #[.int .u8 vx.k, .int .i64 vx.n, .string vx.s] := e46; subst e46; intro v55 h55 e55; replace e55 : v55 = .agg #[.int .u8 vy.k, .int .i64 vy.n, .string vy.s] := e55; subst e55; refine exec_call (wanted_yes (b := true) (t := 38) rfl rfl h38) (by go_simp; exact ⟨rfl, rfl⟩) ?_; refine (HC7.out wR).mono ?_; rintro e7 w8 ⟨rfl, kp8⟩; exact ⟨_, rfl, rfl, kp8⟩
                    case o26 => intro aR wR hR; replace hR := hR.undrew; intro v38 h38 e38; replace e38 : v38 = .bool true := e38; subst e38; intro v56 h56 e56; replace e56 : v56 = .bool q := e56; subst e56; exact exec_val (c := .bool q) (wanted_none rfl) (by go_simp) rfl
                  · intro vs wR hR hV
                    obtain ⟨e0, e1, e2, e3, e4, e5, e6, e7, e8, e9, e10, e11, e12, e13, e14, e15, e16, e17, e18, e19, e20, e21, e22, e23, e24, e25, e26, -⟩ := hV
                    replace e0 : vs 0 = .pointer (some ⟨p, 0, none⟩) := e0
                    replace e1 : vs 1 = .int .i64 (s : Int) := e1
                    replace e2 : vs 2 = .bool true := e2
                    replace e3 : vs 3 = .bool true := e3
                    replace e4 : vs 4 = .int .i64 ((jj + 1 : Nat) : Int) := e4
                    replace e5 : vs 5 = .bool true := e5
                    replace e6 : vs 6 = .bool true := e6
                    replace e7 : vs 7 = .bool true := e7
                    replace e8 : vs 8 = .slice (some ⟨b1, off1, none⟩) m rc := e8
                    replace e9 : vs 9 = .int .i64 (i : Int) := e9
                    replace e10 : vs 10 = .pointer (some ⟨b1, off1 + i, none⟩) := e10
                    replace e11 : vs 11 = .slice (some ⟨b3, off3, none⟩) xn xc := e11
                    replace e12 : vs 12 = .pointer (some ⟨p, 0, none⟩) := e12
                    replace e13 : vs 13 = .int .i64 (s : Int) := e13
                    replace e14 : vs 14 = .pointer (some ⟨b3, off3 + s * 3, none⟩) := e14
                    replace e15 : vs 15 = .agg #[.int .u8 vx.k, .int .i64 vx.n, .string vx.s] := e15
                    replace e16 : vs 16 = .slice (some ⟨b2, off2, none⟩) i capo := e16
                    replace e17 : vs 17 = .int .i64 ((jj + 1 : Nat) : Int) := e17
                    replace e18 : vs 18 = .int .i64 (jj : Int) := e18
                    replace e19 : vs 19 = .pointer (some ⟨b2, off2 + jj, none⟩) := e19
                    replace e20 : vs 20 = .slice (some ⟨b4, off4, none⟩) yn yc := e20
                    replace e21 : vs 21 = .pointer (some ⟨p, 0, none⟩) := e21
                    replace e22 : vs 22 = .int .i64 (s : Int) := e22
                    replace e23 : vs 23 = .pointer (some ⟨b4, off4 + s * 3, none⟩) := e23
                    replace e24 : vs 24 = .agg #[.int .u8 vy.k, .int .i64 vy.n, .string vy.s] := e24
                    replace e25 : vs 25 = .bool q := e25
                    replace e26 : vs 26 = .bool q := e26
                    simp only [putAll, e0, e1, e2, e3, e4, e5, e6, e7, e8, e9, e10, e11, e12, e13, e14, e15, e16, e17, e18, e19, e20, e21, e22, e23, e24, e25, e26, Nat.reduceAdd, Nat.zero_add]
                    clear e0 e1 e2 e3 e4 e5 e6 e7 e8 e9 e10 e11 e12 e13 e14 e15 e16 e17 e18 e19 e20 e21 e22 e23 e24 e25 e26
                    try simp only [List.setIfInBounds_toArray, List.set_cons_succ, List.set_cons_zero]
                    go_wp2_with fail
                    go_meet
                    exact ⟨q, rfl, HT1, HT2, Lib.hid hR⟩
            obtain ⟨q, rfl, HQ1, HQ2, HKQ⟩ := hcut
            cases q
            · have HDN := Lib.hid (HQ2.out rfl)
              clear HQ1 HQ2
              have HO2 : Hid (OwnS hcells 1 wc w3.heap.size 36 ado capo R) := Lib.hid ((HOW.out.keep0 HKI.out).keep0 HKQ.out)
              have hRd := HO2.out.rd hlies
              obtain ⟨ah, ch, hhd, hhr⟩ := head_rows wc ado capo i j R HRL.out hji hRd
              obtain ⟨at', ct, htl, htr⟩ := tail_rows wc ado capo i j R HRL.out hji hRd
              have HL2 : Hid (R.take j = L ∧ R.drop j = Z ∧ Z.length = i - j) := Lib.hid (by
                have h1 := HJL.out
                have h2 := HRL.out
                rw [HRE.out] at h2 ⊢
                simp at h2
                exact ⟨List.take_left' h1, List.drop_left' h1, by omega⟩)
              rw [HL2.out.1] at hhr
              rw [HL2.out.2.1] at htr
              have HSH : Hid (Src Try.prog 1 27 (.slice ah j ch) j (L.flatMap hcells) wc) := Lib.hid (by
                have := src_rdS hlies (P := Try.prog) hhr Try.underlying27
                rwa [HJL.out] at this)
              have HST2 : Hid (∀ W, Kp [] wc W → Src Try.prog 1 27 (.slice at' (i - j) ct) (i - j) (Z.flatMap hcells) W) := Lib.hid (fun W hW => by
                have := src_rdS hlies (P := Try.prog) (htr.keep0 hlies.len hW) Try.underlying27
                rwa [HL2.out.2.2] at this)
              have hws : w3.heap.size ≤ wc.heap.size := (HK.out.tr (HKI.out.tr HKQ.out)).size
              have c1 := (HKI.out.tr HKQ.out).cell C1.out (by simp)
              have c1n := C1
              clear hRd hhr htr
              go_wp2_with (first
                | (at_builtin; refine wpList_appS hlies rfl (.tmp 60) (.tmp 63) 27 27 rfl wc.heap.size 36 (.slice none 0 0) 24 Try.underlying27 infoRow rfl none 0 0 [] rfl L _ j HJL.out.symm rfl rfl (OwnS.nil _ _ _ _ _) HSH.out (by omega) (by omega) (Nat.le_refl _) ?_; intro adA capA wA hoA kpA hobA _; rw [List.nil_append] at hoA; have hsA := kpA.size; have kpA2 : Kp [] wc wA := kpA; have c1 := kpA2.cell c1 (by simp))
                | (at_builtin; refine wpList_appS hlies rfl (.tmp 65) (.tmp 70) 27 27 rfl wc.heap.size 36 (.slice none 0 0) 24 Try.underlying27 infoRow rfl adA capA j L HJL.out.symm [⟨xa, xn, xc, r⟩] _ 1 rfl rfl rfl (hoA.alloc _) (src_oneS hlies Try.underlying27 (heap_alloc_at rfl)) (by omega) (by omega) (by simp; omega) ?_; intro adB capB wB hoB kpB hobB _; have kpB2 : Kp [] wc wB := (kpA2.alloc _).trans kpB (by simp) (fun x hx => .inr (hoA.ob_ge x hx).1); have hsB := kpB2.size)
                | (at_builtin; refine wpList_appS hlies rfl (.tmp 72) (.tmp 75) 27 27 rfl wc.heap.size 36 (.slice none 0 0) 24 Try.underlying27 infoRow rfl adB capB (j + 1) (L ++ [⟨xa, xn, xc, r⟩]) (by have := HJL.out; simp; omega) Z _ (i - j) HL2.out.2.2.symm rfl rfl hoB (HST2.out _ kpB2) (by omega) (by omega) (by omega) ?_; intro adC capC wC hoC kpC hobC _))
              have HOC := Lib.hid hoC
              have HKC : Hid (Kp [] wc wC) := Lib.hid (kpB2.trans kpC (by simp) (fun x hx => .inr (hoB.ob_ge x hx).1))
              clear hoC hoB hoA kpC kpB kpA kpA2 kpB2
              go_roundw
              case rel =>
                refine ⟨i + 1, adC, capC, (L ++ [⟨xa, xn, xc, r⟩]) ++ Z, hlt, by go_num, ?_, Lib.hid (by have h1 := HJL.out; have h2 := HL2.out.2.2; simp; omega), Lib.hid (HOC.out.mono hws), Lib.hid ?_, Lib.hid ?_, Lib.hid ((HK.out.tr (HKI.out.tr HKQ.out)).tr HKC.out)⟩
                · rw [show j + 1 + (i - j) = i + 1 by omega]
                · intro x hx
                  rcases List.mem_append.1 hx with hx | hx
                  · rcases List.mem_append.1 hx with hx | hx
                    · exact HRO.out x (by rw [HRE.out]; simp [hx])
                    · simp at hx
                      subst hx
                      exact ⟨HXO3.out, HXK.out⟩
                  · exact HRO.out x (by rw [HRE.out]; simp [hx])
                · rw [HTK.out, List.append_assoc]
                  have hst := HST.out
                  rw [HRE.out] at hst
                  exact sort_step rfl hst HDN.out.1 HDN.out.2
              case measure => simp [intOf]; omega
            · obtain ⟨j', L', y, rfl, rfl, hs0, hlt2⟩ := HQ1.out rfl
              have HLT := Lib.hid hlt2
              have hjs : ((j' + 1 : Nat) : Int) - 1 = (j' : Int) := by omega
              clear hlt2
              go_wp2_with fail
              go_roundw
              case rel => exact ⟨j', L', y :: Z, by go_num, by omega, Lib.hid (by rw [HRE.out]; simp), Lib.hid (by have := HJL.out; simpa using this), Lib.hid (fun h => by omega), Lib.hid (fun s hs z hz => by
                rcases List.mem_cons.1 hz with rfl | hz
                · exact HLT.out s hs
                · exact HZL.out s hs z hz), Lib.hid (HKI.out.tr HKQ.out)⟩
              case measure => simp [intOf]
        · obtain rfl : i = m := by omega
          go_wp2_with fail
          go_ret2
          refine ⟨K3.out.tr HK.out, .inr ⟨HE'.out, ado, capo, R, by rw [← HM.out]; rfl, by rw [← HRL.out, HM.out], ⟨HOW.out.rd hlies, fun x hx => (HRO.out x hx).1.keep0 HK.out⟩, ?_⟩⟩
          have hst := HST.out
          rw [HM.out, List.take_length] at hst
          rw [← HSV.out]; exact hst
    · have HZ := Lib.hid (show sortE l c hs ≠ 0 by rw [HE.out]; exact hz)
      generalize mayT l hs = v at *
      have hvz : ((v : Int) != 0) = true := by simpa using hz
      go_wp2_with fail
      go_ret2
      exact ⟨K3.out, .inl ⟨HZ.out, by rw [HE.out]; rfl⟩⟩
end Go.Proofs.Ytfacpfogdcefpaa
namespace Go.Proofs.Ytfacpfogdcefpaa
open Go.RowKit Go.Shelf
set_option linter.unusedSimpArgs false
set_option linter.unusedVariables false
set_option maxRecDepth 100000

def IsI (v : Value) : Prop := ∃ t : Int, v = .int .i64 t
theorem isI (t : Int) : IsI (.int .i64 t) := ⟨t, rfl⟩
def BoolPost (Q : Bool → World → Prop) (e : Ending) (w' : World) : Prop := ∃ b, e = .returned (.bool b) ∧ Q b w'
theorem r10Great_any (a0 : Option Addr) (c0 n : Nat) (a : List V3) (hn : n = a.length) (w : World) (ha : RdV w a0 c0 a) (hnb : n ≤ 1000000) :
    Calls Try.prog 30 #[.slice a0 n c0, .int .i64 300] w (BoolPost fun _ w' => Kp [] w w') := by
  have HN := Lib.hid hn
  have HA := Lib.hid ha
  clear hn ha
  go_enter Try.func30, Try.ntmps30
  go_wp2_with fail
  go_loopw [5, 6] (fun vt vi wr => ∃ k : Nat, k ≤ n ∧ vi = .int .i64 k ∧ IsI vt ∧ wr = w) (fun _ vi _ => n - (intOf vi).toNat)
  case atStart => exact ⟨0, Nat.zero_le _, rfl, isI _, rfl⟩
  case round =>
    obtain ⟨k, hk, rfl, ⟨t, rfl⟩, hw⟩ := hrel
    subst wr
    by_cases hlt : k < n
    · obtain ⟨b1, off1, rfl, -, -, h3⟩ := HA.out.atV k (by rw [← HN.out]; exact hlt)
      generalize (atV a k).s = s at *
      go_wp2_with fail
      go_roundw
      case rel => exact ⟨k + 1, hlt, by go_num, isI _, trivial⟩
      case measure => simp [intOf]; omega
    · obtain rfl : k = n := by omega
      by_cases h : (300 : Int) < (k : Int)
      · go_wp2_with fail
        go_ret
        exact ⟨_, rfl, Kp.refl _ _⟩
      · go_wp2_with fail
        go_ret
        exact ⟨_, rfl, Kp.refl _ _⟩

/-- Not too much. -/
def GreatB (l : List Col) (c : Cfg) (hs : List Hd) (many : Nat) (b : Bool) : Prop := b = false → greatC l c = false ∧ hs.length ≤ many ∧ ∀ x ∈ hs, x.row.length ≤ 300
theorem greatB (l : List Col) (c : Cfg) (hs : List Hd) (many : Nat) : GreatB l c hs many true := fun h => by cases h
set_option maxHeartbeats 800000 in
theorem r18Great_any (ad : Option Addr) (cap n : Nat) (l : List Col) (hn : n = l.length) (c : Cfg) (ra : Option Addr) (rc m : Nat) (hs : List Hd) (hm : m = hs.length) (many : Nat) (w : World) (h : RdC w ad cap l) (ho : COk l) (hr : RdR w ra rc hs) (hmany : many ≤ 1000) :
    Calls Try.prog 9 #[.slice ad n cap, cfgV c, .slice ra m rc, .int .i64 (many : Int)] w (BoolPost fun b w' => Kp [] w w' ∧ GreatB l c hs many b) := by
  have H := Lib.hid h
  have HN := Lib.hid hn
  have HO := Lib.hid ho
  have HR := Lib.hid hr
  have HM := Lib.hid hm
  have GT : Hid (∀ W, Kp [] w W → Calls Try.prog 29 #[.slice ad n cap, cfgV c] W fun e w' => e = .returned (.bool (greatC l c)) ∧ Kp [] W w') := Lib.hid (fun W k => r17Great_any ad cap n l HN.out c W (H.out.keep0 k) HO.out)
  clear h hn ho hr hm
  obtain ⟨gq, hgq⟩ : ∃ gq, gq = greatC l c := ⟨_, rfl⟩
  rw [← hgq] at GT
  have HGQ := Lib.hid hgq
  clear hgq
  obtain ⟨sv, hsv⟩ : ∃ sv, sv = c.srt := ⟨_, rfl⟩
  obtain ⟨v1, hv1⟩ : ∃ v, v = Value.slice c.ia c.inv.length c.ic := ⟨_, rfl⟩
  obtain ⟨v2, hv2⟩ : ∃ v, v = Value.slice c.ra c.rng.length c.rc := ⟨_, rfl⟩
  obtain ⟨v3, hv3⟩ : ∃ v, v = Value.slice c.sa c.spl.length c.sc := ⟨_, rfl⟩
  obtain ⟨v4, hv4⟩ : ∃ v, v = c.leaf := ⟨_, rfl⟩
  have hcv : cfgV c = .agg #[.int .i64 sv, v1, v2, v3, .int .i64 v4] := by rw [hsv, hv1, hv2, hv3, hv4]; rfl
  rw [hcv] at GT ⊢
  clear hsv hcv
  go_enter Try.func9, Try.ntmps9
  simp only [hv1, hv2, hv3]
  go_wp2_with fail
  simp only [hv1, hv2, hv3, hv4] at GT
  refine (GT.out _ ((Kp.refl [] w).alloc _)).mono ?_
  rintro e w2 ⟨rfl, kp2⟩
  have K2 : Hid (Kp [] w w2) := Lib.hid (((Kp.refl [] w).alloc _).trans kp2 (by simp) (by simp))
  clear kp2 GT
  cases gq
  · by_cases hmm : m ≤ many
    · have hm0 : decide (many < m) = false := by simp; omega
      go_wp2_with fail
      go_loopw [9, 10] (fun vt vi wr => ∃ k : Nat, k ≤ m ∧ vi = .int .i64 k ∧ IsI vt ∧ Hid (∀ i, i < k → (rowA hs i).length ≤ 300) ∧ Hid (Kp [] w wr)) (fun _ vi _ => m - (intOf vi).toNat)
      case atStart => exact ⟨0, Nat.zero_le _, rfl, isI _, Lib.hid (fun i hi => by omega), K2⟩
      case round =>
        obtain ⟨k, hk, rfl, ⟨t, rfl⟩, HB, HK⟩ := hrel
        obtain ⟨wo, rfl⟩ : ∃ wo : World, wo = wr := ⟨_, rfl⟩
        by_cases hlt : k < m
        · obtain ⟨b1, off1, xa, xn, xc, rfl, c0, hxn, hxr⟩ := HR.out.at' k (by rw [← HM.out]; exact hlt)
          have C0 : Hid (∀ W, Kp [] w W → W.cell? ⟨b1, off1 + k, none⟩ = some (.slice xa xn xc)) := Lib.hid (fun W hW => hW.cell c0 (by simp))
          have HBN : Hid ((rowA hs k).length ≤ 300 → ∀ i, i < k + 1 → (rowA hs i).length ≤ 300) := Lib.hid (fun h i hi => by
            by_cases hik : i = k
            · rw [hik]; exact h
            · exact HB.out i (by omega))
          generalize rowA hs k = r at *
          have HXN := Lib.hid hxn
          have HXR := Lib.hid hxr
          clear hxn hxr c0
          have c1 := C0.out wo HK.out
          by_cases h3 : xn ≤ 300
          · have HBK := Lib.hid (HBN.out (by rw [← HXN.out]; exact h3))
            have hx3 : ¬ (300 : Int) < (xn : Int) := by omega
            go_wp2_with fail
            refine (r10Great_any xa xc xn r HXN.out wo (HXR.out.keep0 HK.out) (by omega)).mono ?_
            rintro e w3 ⟨b, rfl, kp3⟩
            have K3 : Hid (Kp [] w w3) := Lib.hid (HK.out.trans kp3 (by simp) (by simp))
            have c3 := C0.out w3 K3.out
            clear kp3
            cases b
            · go_wp2_with fail
              go_loopw [9, 11] (fun vt vi wr => ∃ j : Nat, j ≤ xn ∧ vi = .int .i64 j ∧ IsI vt ∧ wr = w3) (fun _ vi _ => xn - (intOf vi).toNat)
              case atStart => exact ⟨0, Nat.zero_le _, rfl, isI _, rfl⟩
              case round =>
                obtain ⟨j, hj, rfl, ⟨t2, rfl⟩, hw⟩ := hrel
                subst wr
                by_cases hlj : j < xn
                · obtain ⟨b2, off2, rfl, -, -, d2⟩ := (HXR.out.keep0 K3.out).atV j (by rw [← HXN.out]; exact hlj)
                  generalize (atV r j).s = s at *
                  go_wp2_with fail
                  go_roundw
                  case rel => exact ⟨j + 1, hlj, by go_num, isI _, trivial⟩
                  case measure => simp [intOf]; omega
                · obtain rfl : j = xn := by omega
                  go_wp2_with fail
                  go_roundw
                  case rel => exact ⟨k + 1, hlt, by go_num, isI _, HBK, K3⟩
                  case measure => simp [intOf]; omega
            · go_wp2_with fail
              go_ret
              exact ⟨_, rfl, K3.out, greatB _ _ _ _⟩
          · have hx3 : (300 : Int) < (xn : Int) := by omega
            go_wp2_with fail
            go_ret
            exact ⟨_, rfl, HK.out, greatB _ _ _ _⟩
        · obtain rfl : k = m := by omega
          go_wp2_with fail
          go_ret
          refine ⟨_, rfl, HK.out, fun _ => ⟨HGQ.out.symm, by rw [← HM.out]; exact hmm, fun x hx => ?_⟩⟩
          obtain ⟨i, hi, rfl⟩ := List.getElem_of_mem hx
          rw [← rowA_eq hs i hi]
          exact HB.out i (by rw [HM.out]; exact hi)
    · have hm0 : decide (many < m) = true := by simp; omega
      go_wp2_with fail
      go_ret
      exact ⟨_, rfl, K2.out, greatB _ _ _ _⟩
  · go_wp2_with fail
    go_ret
    exact ⟨_, rfl, K2.out, greatB _ _ _ _⟩

/-- A column of rows. -/
def colV (p : Int) (r : List V3) : V3 := if 0 ≤ p ∧ p < (r.length : Nat) then atV r p.toNat else noVal
def colL (p : Int) (hs : List Hd) : List V3 := hs.map fun h => colV p h.row
theorem colL_take (p : Int) (hs : List Hd) (k : Nat) (h : k < hs.length) : colL p (hs.take (k + 1)) = colL p (hs.take k) ++ [colV p (rowA hs k)] := by
  unfold colL
  rw [List.take_succ_eq_append_getElem h, List.map_append, rowA_eq hs k h]; rfl
/-- Where a slice of structs is filled up to k. -/
theorem there_row {w : World} {g : Nat} {t : TypeId} {cs : Array Value} (h : w.heap[g]? = some (.cells cs t (0, 0))) {o n : Nat} (hn : o + n ≤ cs.size) : w.there g o n := fun j hj =>
  ⟨by rw [cell_of_row w g _ cs t _ h, Array.getElem?_eq_getElem (by omega)]; rfl, frozen_of_row w g _ cs t h⟩
theorem fill_step {w : World} {g k m : Nat} {t : TypeId} {D : List V3} (v : V3) (h : w.heap[g]? = some (.cells ((D ++ List.replicate (m - k) noVal).flatMap vcells).toArray t (0, 0))) (hD : D.length = k) (hk : k < m) :
    w.there g (k * 3) 3 ∧ (w.setCells g (k * 3) (vcells v)).heap[g]? = some (.cells (((D ++ [v]) ++ List.replicate (m - (k + 1)) noVal).flatMap vcells).toArray t (0, 0)) ∧ Kp [g] w (w.setCells g (k * 3) (vcells v)) := by
  have hl : ((D ++ List.replicate (m - k) noVal).flatMap vcells).length = m * 3 := by rw [flat_length vlies.len]; simp; omega
  obtain ⟨h1, h2, h3⟩ := setCells_eq g t (vcells v) (k * 3) _ w h (by simp only [List.size_toArray]; rw [hl, vcells_length]; omega)
  refine ⟨there_row h (by simp only [List.size_toArray]; rw [hl]; omega), ?_, h2⟩
  rw [h1]
  congr 3
  have hr : List.replicate (m - k) noVal = noVal :: List.replicate (m - (k + 1)) noVal := by rw [show m - k = (m - (k + 1)) + 1 by omega]; rfl
  have hDl : (D.flatMap vcells).length = k * 3 := by rw [flat_length vlies.len, hD]
  simp only [vcells_length]
  rw [hr, List.flatMap_append, List.flatMap_cons, List.take_left' hDl, List.flatMap_append, List.flatMap_append, List.flatMap_cons, List.flatMap_nil, List.append_nil, ← List.append_assoc, List.drop_left' (by rw [List.length_append, hDl, vcells_length])]

set_option maxHeartbeats 800000 in
theorem tColumn_any (ra : Option Addr) (rc m : Nat) (hs : List Hd) (hm : m = hs.length) (p : Int) (w : World) (hr : RdR w ra rc hs) (hmb : m ≤ 1000000) (hrb : ∀ h ∈ hs, h.row.length ≤ 1000000) :
    Calls Try.prog 20 #[.slice ra m rc, .int .i64 p] w fun e w' => ∃ g, e = .returned (.slice (some ⟨g, 0, none⟩) m m) ∧ w.heap.size ≤ g ∧ RdV w' (some ⟨g, 0, none⟩) m (colL p hs) ∧ Kp [] w w' := by
  have HR := Lib.hid hr
  have HM := Lib.hid hm
  have HRB := Lib.hid hrb
  have hmk : ∀ wx : World, _ := fun wx => make_vals wx m hmb
  clear hr hm hrb
  go_enter Try.func20, Try.ntmps20
  go_wp2_with fail
  obtain ⟨g, hg⟩ : ∃ g, g = w.heap.size := ⟨_, rfl⟩
  have hD0 := (heap_alloc_at (w := w) (o := .cells ((List.replicate m noVal).flatMap vcells).toArray 38) rfl)
  have kp0 : Kp [] w (w.alloc (.cells ((List.replicate m noVal).flatMap vcells).toArray 38)) := (Kp.refl [] w).alloc _
  generalize w.alloc (.cells ((List.replicate m noVal).flatMap vcells).toArray 38) = w1 at *
  rw [← hg] at hD0 ⊢
  have HG := Lib.hid hg
  have HD0 := Lib.hid hD0
  have HK0 := Lib.hid kp0
  clear hg hmk hD0 kp0
  go_loopw [13] (fun vi wr => ∃ (k : Nat) (D : List V3), k ≤ m ∧ vi = .int .i64 k ∧ Hid (D.length = k) ∧ Hid (wr.heap[g]? = some (.cells ((D ++ List.replicate (m - k) noVal).flatMap vcells).toArray 38 (0, 0))) ∧ Hid (D = colL p (hs.take k)) ∧ Hid (Kp [] w wr)) (fun vi _ => m - (intOf vi).toNat)
  case atStart => exact ⟨0, [], Nat.zero_le _, rfl, Lib.hid rfl, HD0, Lib.hid rfl, HK0⟩
  case round =>
    obtain ⟨k, D, hk, rfl, HDL, HD, HDR, HK⟩ := hrel
    obtain ⟨wo, rfl⟩ : ∃ wo : World, wo = wr := ⟨_, rfl⟩
    by_cases hlt : k < m
    · obtain ⟨b, off, xa, xn, xc, rfl, c0, hxn, hxr⟩ := (HR.out.keep0 HK.out).at' k (by rw [← HM.out]; exact hlt)
      have hxb : xn ≤ 1000000 := by rw [hxn, rowA_eq hs k (by rw [← HM.out]; exact hlt)]; exact HRB.out _ (List.getElem_mem _)
      have HTK : Hid (colL p (hs.take (k + 1)) = colL p (hs.take k) ++ [colV p (rowA hs k)]) := Lib.hid (colL_take p hs k (by rw [← HM.out]; exact hlt))
      generalize rowA hs k = r at *
      have HXN := Lib.hid hxn
      have HXR := Lib.hid hxr
      clear hxn hxr
      have HOUT : Hid (¬ (0 ≤ p ∧ p < (xn : Int)) → ∃ D' : List V3, D'.length = k + 1 ∧ wo.heap[g]? = some (.cells ((D' ++ List.replicate (m - (k + 1)) noVal).flatMap vcells).toArray 38 (0, 0)) ∧ D' = colL p (hs.take (k + 1))) := Lib.hid (fun h => by
        refine ⟨D ++ [noVal], by have := HDL.out; simp; omega, ?_, ?_⟩
        · rw [HD.out, show m - k = (m - (k + 1)) + 1 by omega, List.replicate_succ, List.append_assoc]; rfl
        · rw [HTK.out, ← HDR.out]
          congr 2
          unfold colV
          rw [if_neg (by rw [← HXN.out]; exact h)])
      by_cases h0 : (0 : Int) ≤ p
      · by_cases hp : p < (xn : Int)
        · obtain ⟨s, rfl⟩ : ∃ s : Nat, p = (s : Int) := ⟨p.toNat, by omega⟩
          have hsn : s < xn := by omega
          obtain ⟨b2, off2, rfl, d0, d1, d2⟩ := HXR.out.atV s (by rw [← HXN.out]; exact hsn)
          have HCV : Hid (colV (s : Int) r = atV r s) := Lib.hid (by
            unfold colV
            rw [if_pos ⟨by omega, by rw [← HXN.out]; exact hp⟩, Int.toNat_natCast])
          have hF := fill_step (atV r s) HD.out HDL.out hlt
          rw [HCV.out] at HTK
          generalize atV r s = v at *
          obtain ⟨f1, f2, f3⟩ := hF
          have F1 := Lib.hid f1
          have F2 := Lib.hid f2
          have F3 := Lib.hid f3
          obtain ⟨vk, vn, vs⟩ := v
          dsimp only at d0 d1 d2
          clear f1 f2 f3
          go_wp2_with (refine wpList_store_mid rfl 38 _ _ rfl g (k * 3) #[.int .u8 vk, .int .i64 vn, .string vs] rfl rfl F1.out (by kernel_rfl) (by simp [Value.oneCell']) ?_)
          go_roundw
          case rel =>
            have hgw : w.heap.size ≤ g := by rw [HG.out]; exact Nat.le_refl _
            exact ⟨k + 1, D ++ [(⟨vk, vn, vs⟩ : V3)], hlt, by go_num, Lib.hid (by have := HDL.out; simp; omega), F2, Lib.hid (by rw [HTK.out, ← HDR.out]), Lib.hid (HK.out.trans F3.out (by simp) (by intro x hx; simp at hx; rw [hx]; exact .inr hgw))⟩
          case measure => simp [intOf]; omega
        · obtain ⟨D', h1, h2, h3⟩ := HOUT.out (fun h => hp h.2)
          have H1 := Lib.hid h1
          have H2 := Lib.hid h2
          have H3 := Lib.hid h3
          clear h1 h2 h3
          go_wp2_with fail
          go_roundw
          case rel => exact ⟨k + 1, D', hlt, by go_num, H1, H2, H3, HK⟩
          case measure => simp [intOf]; omega
      · obtain ⟨D', h1, h2, h3⟩ := HOUT.out (fun h => h0 h.1)
        have H1 := Lib.hid h1
        have H2 := Lib.hid h2
        have H3 := Lib.hid h3
        clear h1 h2 h3
        go_wp2_with fail
        go_roundw
        case rel => exact ⟨k + 1, D', hlt, by go_num, H1, H2, H3, HK⟩
        case measure => simp [intOf]; omega
    · obtain rfl : k = m := by omega
      go_wp2_with fail
      go_ret
      have hlen := HDL.out
      refine ⟨g, rfl, by rw [HG.out]; exact Nat.le_refl _, ?_, HK.out⟩
      have hd := HD.out
      rw [Nat.sub_self, List.replicate_zero, List.append_nil] at hd
      have h2 := HDR.out
      rw [show hs.take k = hs by rw [HM.out, List.take_length]] at h2
      rw [← h2]
      refine ⟨by omega, by omega, fun i hi => ⟨g, 0, rfl, fun j hj => ?_⟩⟩
      rw [Nat.zero_add, cell_of_row wo g _ _ _ _ hd]
      have := flat_get vlies.len D i j hi hj
      simpa using this
end Go.Proofs.Ytfacpfogdcefpaa
namespace Go.Proofs.Ytfacpfogdcefpaa
open Go.RowKit Go.Shelf
set_option linter.unusedSimpArgs false
set_option linter.unusedVariables false
set_option maxRecDepth 100000

def rw2 (n : Int) (s : ByteArray) : List V3 := [⟨1, n, ⟨#[]⟩⟩, ⟨2, 0, s⟩]
def rh (q : Nat) (r : List V3) : Hd := ⟨some ⟨q, 0, none⟩, r.length, r.length, r⟩
theorem known181_any (n : Int) (s : ByteArray) (w : World) : Calls Try.prog 31 #[.int .i64 n, .string s] w fun e w' => ∃ q, e = .returned (.slice (some ⟨q, 0, none⟩) 2 2) ∧ OwnRow w' w.heap.size (rh q (rw2 n s)) ∧ Kp [] w w' := by
  go_enter Try.func31, Try.ntmps31
  go_wp2_with fail
  go_ret
  exact ⟨_, rfl, ⟨_, rfl, rfl, rfl, Nat.le_refl _, heap_alloc_at rfl, by simp [rh, rw2]⟩, (Kp.refl [] w).alloc _⟩

/-- A slice of rows that was just built. -/
theorem rdR_block {w : World} {g n : Nat} {t : TypeId} {hs : List Hd} (h : w.heap[g]? = some (.cells (hs.flatMap hcells).toArray t (0, 0))) (hn : n = hs.length) (ho : ∀ x ∈ hs, HdOk w x) (hl : hs.length ≤ 1000000) : RdR w (some ⟨g, 0, none⟩) n hs := by
  subst hn
  refine ⟨⟨Nat.le_refl _, by omega, fun i hi => ⟨g, 0, rfl, fun j hj => ?_⟩⟩, ho⟩
  rw [Nat.zero_add, cell_of_row w g _ _ _ _ h]
  have := flat_get hlies.len hs i j hi hj
  simpa using this
theorem rdC_block {w : World} {g n : Nat} {t : TypeId} {l : List Col} (h : w.heap[g]? = some (.cells (l.flatMap ccells).toArray t (0, 0))) (hn : n = l.length) (hl : l.length ≤ 1000000) : RdC w (some ⟨g, 0, none⟩) n l := by
  subst hn
  refine ⟨Nat.le_refl _, by omega, fun i hi => ⟨g, 0, rfl, fun j hj => ?_⟩⟩
  rw [Nat.zero_add, cell_of_row w g _ _ _ _ h]
  have := flat_get clies.len l i j hi hj
  simpa using this

def l18 : List Col := [⟨⟨#[97]⟩, 1⟩, ⟨⟨#[98]⟩, 2⟩]
def c18 : Cfg := ⟨0, none, 0, [], none, 0, [], none, 0, [], 1⟩
theorem ok18 : COk l18 := by intro x hx; simp [l18] at hx; rcases hx with rfl | rfl <;> exact ⟨by decide, by decide, by decide⟩
theorem cfg18 (w : World) : RdCfg w c18 := ⟨RdS.nil _ _ _, RdS.nil _ _ _, by simp [Rd, c18]⟩
theorem k18a (a b c d : Nat) : sortE l18 c18 [rh a (rw2 2 ⟨#[120]⟩), rh b (rw2 1 ⟨#[121]⟩), rh c (rw2 2 ⟨#[97]⟩), rh d (rw2 1 ⟨#[98]⟩)] = 0 := by kernel_rfl
theorem k18c (a : Nat) : mayT l18 [rh a [⟨1, 0, ⟨#[]⟩⟩, ⟨1, 0, ⟨#[]⟩⟩]] = 9 := by kernel_rfl
theorem k18s : SortedL 0 [rw2 2 ⟨#[120]⟩, rw2 1 ⟨#[121]⟩, rw2 2 ⟨#[97]⟩, rw2 1 ⟨#[98]⟩] [rw2 1 ⟨#[121]⟩, rw2 1 ⟨#[98]⟩, rw2 2 ⟨#[120]⟩, rw2 2 ⟨#[97]⟩] := by
  refine ⟨fun h => by omega, fun _ => ?_⟩
  have s0 : Stab (ltr 0) [] ([] ++ []) := Stab.nil
  have s1 := stab_put (ltr_swo 0) (x := rw2 2 ⟨#[120]⟩) s0 (by simp) (by simp)
  have s2 := stab_put (ltr_swo 0) (L := []) (R := [rw2 2 ⟨#[120]⟩]) (x := rw2 1 ⟨#[121]⟩) s1 (by intro y hy; simp at hy; subst hy; decide +kernel) (by simp)
  have s3 := stab_put (ltr_swo 0) (L := [rw2 1 ⟨#[121]⟩, rw2 2 ⟨#[120]⟩]) (R := []) (x := rw2 2 ⟨#[97]⟩) s2 (by simp) (by intro y hy; simp at hy; rcases hy with rfl | rfl <;> decide +kernel)
  exact stab_put (ltr_swo 0) (L := [rw2 1 ⟨#[121]⟩]) (R := [rw2 2 ⟨#[120]⟩, rw2 2 ⟨#[97]⟩]) (x := rw2 1 ⟨#[98]⟩) s3 (by intro y hy; simp at hy; rcases hy with rfl | rfl <;> decide +kernel) (by intro y hy; simp at hy; subst hy; decide +kernel)

theorem rdR_own {w : World} {g b : Nat} {R : List Hd} (hd : Dat w g R) (ho : ∀ h ∈ R, OwnRow w b h) (hl : R.length ≤ 1000000) : RdR w (some ⟨g, 0, none⟩) R.length R := by
  obtain ⟨cur, t, h1, h2, h3⟩ := hd
  refine ⟨⟨Nat.le_refl _, by omega, fun i hi => ⟨g, 0, rfl, fun j hj => ?_⟩⟩, fun x hx => (ho x hx).ok⟩
  obtain rfl : j = 0 := by omega
  rw [Nat.zero_add, cell_of_row w g _ _ _ _ h1]
  simp only [Nat.mul_one, Nat.add_zero]
  rw [h3 i hi]; rfl

set_option maxHeartbeats 1600000 in
theorem known18_any (w : World) : Calls Try.prog 10 #[] w fun e w' => e = .returned (.bool true) ∧ Kp [] w w' := by
  have heg := enters_of (P := Try.prog) Try.func31 (by kernel_rfl) rfl
  go_enter Try.func10, Try.ntmps10
  go_upto_region 3 with (fail)
  generalize hw2 : w.alloc _ = w2
  have h2 : w2.heap[w.heap.size]? = some (.cells (l18.flatMap ccells).toArray 62) := by rw [← hw2]; exact heap_alloc_at rfl
  have HK2 := Lib.hid (show Kp [] w w2 by rw [← hw2]; exact (Kp.refl [] w).alloc _)
  have hb2 : w.heap.size < w2.heap.size := lt_of_heap h2
  have HR2 : Hid (RdC w2 (some ⟨w.heap.size, 0, none⟩) 2 l18) := Lib.hid (rdC_block h2 rfl (by decide))
  clear hw2 h2
  obtain ⟨p, hp⟩ : ∃ p, p = w.heap.size := ⟨_, rfl⟩
  rw [← hp] at hb2 HR2 ⊢
  clear hp
  go_wp2_with fail
  refine (known181_any 2 ⟨#[120]⟩ _).mono ?_
  rintro e w3 ⟨q1, rfl, ho1, kp1⟩
  go_wp2_with fail
  refine (known181_any 1 ⟨#[121]⟩ _).mono ?_
  rintro e w4 ⟨q2, rfl, ho2, kp2⟩
  go_wp2_with fail
  refine (known181_any 2 ⟨#[97]⟩ _).mono ?_
  rintro e w5 ⟨q3, rfl, ho3, kp3⟩
  go_wp2_with fail
  refine (known181_any 1 ⟨#[98]⟩ _).mono ?_
  rintro e w6 ⟨q4, rfl, ho4, kp4⟩
  have HO : Hid (∀ x ∈ [rh q1 (rw2 2 ⟨#[120]⟩), rh q2 (rw2 1 ⟨#[121]⟩), rh q3 (rw2 2 ⟨#[97]⟩), rh q4 (rw2 1 ⟨#[98]⟩)], HdOk (w6.alloc (.cells ([rh q1 (rw2 2 ⟨#[120]⟩), rh q2 (rw2 1 ⟨#[121]⟩), rh q3 (rw2 2 ⟨#[97]⟩), rh q4 (rw2 1 ⟨#[98]⟩)].flatMap hcells).toArray 36)) x) := Lib.hid (by
    intro x hx
    have k6 : ∀ o, Kp [] w6 (w6.alloc o) := fun o => (Kp.refl [] w6).alloc o
    simp at hx
    rcases hx with rfl | rfl | rfl | rfl
    · exact (((ho1.keep0 kp2).keep0 kp3).keep0 kp4).ok.keep0 (k6 _)
    · exact ((ho2.keep0 kp3).keep0 kp4).ok.keep0 (k6 _)
    · exact (ho3.keep0 kp4).ok.keep0 (k6 _)
    · exact ho4.ok.keep0 (k6 _))
  have HK6 := Lib.hid ((((HK2.out.tr kp1).tr kp2).tr kp3).tr kp4)
  have K26 := Lib.hid (((kp1.tr kp2).tr kp3).tr kp4)
  clear ho1 ho2 ho3 ho4 kp1 kp2 kp3 kp4
  have HRR := Lib.hid (rdR_block (heap_alloc_at (w := w6) rfl) (n := 4) rfl HO.out (by simp))
  go_wp2_with fail
  refine (tSorted_any (some ⟨p, 0, none⟩) 2 2 l18 rfl c18 (some ⟨w6.heap.size, 0, none⟩) 4 4 _ rfl _ ((HR2.out.keep0 K26.out).keep0 ((Kp.refl [] w6).alloc _)) ok18 (cfg18 _) HRR.out (by omega) (by omega) (by intro x hx; simp at hx; rcases hx with rfl | rfl | rfl | rfl <;> simp [rh, rw2])).mono ?_
  rintro e w7 ⟨kp7, ⟨hne, -⟩ | ⟨-, g, R, rfl, hg, hd, hlen, hst, hown⟩⟩
  · exact (hne (k18a _ _ _ _)).elim
  have HT : Hid (R.map (·.row) = [rw2 1 ⟨#[121]⟩, rw2 1 ⟨#[98]⟩, rw2 2 ⟨#[120]⟩, rw2 2 ⟨#[97]⟩]) := Lib.hid (hst.uniq k18s)
  have hl4 : R.length = 4 := hlen
  have HRG : Hid (RdR w7 (some ⟨g, 0, none⟩) 4 R) := Lib.hid (by have := rdR_own hd hown (by omega); rwa [hl4] at this)
  have HL4 := Lib.hid hl4
  have HK7 := Lib.hid ((HK6.out.alloc (.cells ([rh q1 (rw2 2 ⟨#[120]⟩), rh q2 (rw2 1 ⟨#[121]⟩), rh q3 (rw2 2 ⟨#[97]⟩), rh q4 (rw2 1 ⟨#[98]⟩)].flatMap hcells).toArray 36)).tr kp7)
  have HR7 := Lib.hid (((HR2.out.keep0 K26.out).keep0 ((Kp.refl [] w6).alloc _)).keep0 kp7)
  clear hg hd hlen hst hown hl4 kp7 HRR HO HR2 K26 HK6 HK2 hb2
  go_wp2_with fail
  refine (known181_any 1 ⟨#[121]⟩ _).mono ?_
  rintro e w8 ⟨r1, rfl, ho1, kp1⟩
  go_wp2_with fail
  refine (known181_any 1 ⟨#[98]⟩ _).mono ?_
  rintro e w9 ⟨r2, rfl, ho2, kp2⟩
  go_wp2_with fail
  refine (known181_any 2 ⟨#[120]⟩ _).mono ?_
  rintro e w10 ⟨r3, rfl, ho3, kp3⟩
  go_wp2_with fail
  refine (known181_any 2 ⟨#[97]⟩ _).mono ?_
  rintro e w11 ⟨r4, rfl, ho4, kp4⟩
  have HO : Hid (∀ x ∈ [rh r1 (rw2 1 ⟨#[121]⟩), rh r2 (rw2 1 ⟨#[98]⟩), rh r3 (rw2 2 ⟨#[120]⟩), rh r4 (rw2 2 ⟨#[97]⟩)], HdOk (w11.alloc (.cells ([rh r1 (rw2 1 ⟨#[121]⟩), rh r2 (rw2 1 ⟨#[98]⟩), rh r3 (rw2 2 ⟨#[120]⟩), rh r4 (rw2 2 ⟨#[97]⟩)].flatMap hcells).toArray 36)) x) := Lib.hid (by
    intro x hx
    have k6 : ∀ o, Kp [] w11 (w11.alloc o) := fun o => (Kp.refl [] w11).alloc o
    simp at hx
    rcases hx with rfl | rfl | rfl | rfl
    · exact (((ho1.keep0 kp2).keep0 kp3).keep0 kp4).ok.keep0 (k6 _)
    · exact ((ho2.keep0 kp3).keep0 kp4).ok.keep0 (k6 _)
    · exact (ho3.keep0 kp4).ok.keep0 (k6 _)
    · exact ho4.ok.keep0 (k6 _))
  have KX := Lib.hid (((kp1.tr kp2).tr kp3).tr kp4)
  clear ho1 ho2 ho3 ho4 kp1 kp2 kp3 kp4
  have HRS := Lib.hid (rdR_block (heap_alloc_at (w := w11) rfl) (n := 4) rfl HO.out (by simp))
  go_wp2_with fail
  refine (r18Same_any (some ⟨g, 0, none⟩) 4 4 R HL4.out.symm (some ⟨w11.heap.size, 0, none⟩) 4 4 _ rfl _ ((HRG.out.keep0 KX.out).keep0 ((Kp.refl [] w11).alloc _)) HRS.out).mono ?_
  rintro e w12 ⟨rfl, kp12⟩
  have hsm : sameR R [rh r1 (rw2 1 ⟨#[121]⟩), rh r2 (rw2 1 ⟨#[98]⟩), rh r3 (rw2 2 ⟨#[120]⟩), rh r4 (rw2 2 ⟨#[97]⟩)] = true := sameR_iff.2 (by rw [HT.out]; rfl)
  rw [hsm]
  have HK12 := Lib.hid (((HK7.out.tr KX.out).alloc _).tr kp12)
  have HR12 := Lib.hid (((HR7.out.keep0 KX.out).keep0 ((Kp.refl [] w11).alloc _)).keep0 kp12)
  clear hsm kp12 HRS HO HT HRG HL4 HR7 HK7
  go_wp2_with fail
  obtain ⟨o1, ho1⟩ : ∃ o, o = Obj.cells ([(⟨1, 0, ⟨#[]⟩⟩ : V3), ⟨1, 0, ⟨#[]⟩⟩].flatMap vcells).toArray 38 := ⟨_, rfl⟩
  have h13 : ((w12.alloc o1).alloc (.cells ([rh w12.heap.size [⟨1, 0, ⟨#[]⟩⟩, ⟨1, 0, ⟨#[]⟩⟩]].flatMap hcells).toArray 36)).heap[w12.heap.size]? = some o1 := cells_alloc (heap_alloc_at rfl)
  have hok : HdOk ((w12.alloc o1).alloc (.cells ([rh w12.heap.size [⟨1, 0, ⟨#[]⟩⟩, ⟨1, 0, ⟨#[]⟩⟩]].flatMap hcells).toArray 36)) (rh w12.heap.size [⟨1, 0, ⟨#[]⟩⟩, ⟨1, 0, ⟨#[]⟩⟩]) :=
    OwnRow.ok (base := 0) ⟨_, rfl, rfl, rfl, Nat.zero_le _, by rw [h13, ho1]; rfl, by simp [rh]⟩
  have hrr := rdR_block (hs := [rh w12.heap.size [⟨1, 0, ⟨#[]⟩⟩, ⟨1, 0, ⟨#[]⟩⟩]]) (heap_alloc_at (w := w12.alloc o1) rfl) (n := 1) rfl (by intro x hx; simp at hx; subst hx; exact hok) (by simp)
  have hm := tMay_any (some ⟨p, 0, none⟩) 2 2 l18 rfl (some ⟨w12.heap.size + 1, 0, none⟩) 1 1 _ rfl _ ((HR12.out.keep0 ((Kp.refl [] w12).alloc o1)).keep0 ((Kp.refl [] _).alloc _)) ok18 (by have := hrr; simpa using this) (by omega)
  rw [k18c] at hm
  have HKE := Lib.hid (((HK12.out.alloc o1).alloc (.cells ([rh w12.heap.size [⟨1, 0, ⟨#[]⟩⟩, ⟨1, 0, ⟨#[]⟩⟩]].flatMap hcells).toArray 36)))
  subst ho1
  refine hm.mono ?_
  rintro e w14 ⟨rfl, kp14⟩
  go_wp2_with fail
  go_ret
  exact ⟨rfl, HKE.out.tr kp14⟩
end Go.Proofs.Ytfacpfogdcefpaa
