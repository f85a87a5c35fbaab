/-
  Questions: WalkLeaves.
-/
import Derived.Test.YthmaobmgogmaoaaStbR
namespace Go.Proofs.Ythmaobmgogmaoaa
open Go.RowKit Go.Shelf
set_option linter.unusedSimpArgs false
set_option linter.unusedVariables false
set_option maxRecDepth 100000

theorem wrap_w (a : Int) : IntKind.i64.wrap (IntKind.i64.wrap a) = IntKind.i64.wrap a := by
  rw [IntKind.wrap_i64, IntKind.wrap_i64]; omega
/-- Counts together, as Go adds them. -/
def sumC (l : List PR) : Int := l.foldl (fun a x => IntKind.i64.wrap (a + x.cnt)) 0
def sumZ (mt : Nat) (l : List PR) : List Int := l.foldl (fun a x => List.zipWith (fun (b : Int) (s : S3) => IntKind.i64.wrap (b + s.s)) a x.ms) (List.replicate mt 0)
theorem sumC_snoc (l : List PR) (x : PR) : sumC (l ++ [x]) = IntKind.i64.wrap (sumC l + x.cnt) := by simp [sumC]
theorem sumZ_snoc (mt : Nat) (l : List PR) (x : PR) : sumZ mt (l ++ [x]) = List.zipWith (fun (b : Int) (s : S3) => IntKind.i64.wrap (b + s.s)) (sumZ mt l) x.ms := by simp [sumZ]
def totC : Option Cn → Int
  | none => 0
  | some c => IntKind.i64.wrap c.1
def totZ (mt : Nat) : Option Cn → List Int
  | none => List.replicate mt 0
  | some c => c.2.map fun s => IntKind.i64.wrap s.s
theorem zip_none : ∀ (l : List S3), List.zipWith (fun (b : Int) (s : S3) => IntKind.i64.wrap (b + s.s)) (List.replicate l.length 0) l = l.map fun s => IntKind.i64.wrap s.s
  | [] => rfl
  | a :: t => by
    rw [List.length_cons, List.replicate_succ, List.zipWith_cons_cons, zip_none t, List.map_cons, Int.zero_add]
theorem zip_some : ∀ (a b : List S3), List.zipWith (fun (b : Int) (s : S3) => IntKind.i64.wrap (b + s.s)) (a.map fun s => IntKind.i64.wrap s.s) b = (List.zipWith mrg1 a b).map fun s => IntKind.i64.wrap s.s
  | [], _ => by simp
  | _ :: _, [] => by simp
  | a :: s, b :: t => by
    rw [List.map_cons, List.zipWith_cons_cons, List.zipWith_cons_cons, List.map_cons, zip_some s t]
    congr 1
    show _ = IntKind.i64.wrap (IntKind.i64.wrap (a.s + b.s))
    rw [wrap_w, wrap_l]
theorem tot_eq (mt : Nat) : ∀ (l : List PR), (∀ x ∈ l, x.ms.length = mt) → sumC l = totC (Kn l) ∧ sumZ mt l = totZ mt (Kn l) := by
  intro l
  induction h : l.length generalizing l with
  | zero =>
    intro _
    have : l = [] := List.eq_nil_of_length_eq_zero h
    subst this
    exact ⟨rfl, rfl⟩
  | succ n ih =>
    intro hm
    rcases List.eq_nil_or_concat l with hl | ⟨l0, x, hl⟩
    · subst hl; simp at h
    · rw [List.concat_eq_append] at hl
      subst hl
      have hx := hm x (by simp)
      obtain ⟨i1, i2⟩ := ih l0 (by simpa using h) (fun y hy => hm y (by simp [hy]))
      rw [sumC_snoc, sumZ_snoc, i1, i2, Kn_append, Kn_one]
      cases hk : Kn l0 with
      | none =>
        refine ⟨?_, ?_⟩
        · show IntKind.i64.wrap (0 + x.cnt) = IntKind.i64.wrap x.cnt
          rw [Int.zero_add]
        · show List.zipWith _ (List.replicate mt 0) x.ms = x.ms.map _
          rw [← hx]; exact zip_none x.ms
      | some c =>
        refine ⟨?_, ?_⟩
        · show IntKind.i64.wrap (IntKind.i64.wrap c.1 + x.cnt) = IntKind.i64.wrap (IntKind.i64.wrap (c.1 + x.cnt))
          rw [wrap_w, wrap_l]
        · exact zip_some c.2 x.ms
theorem totZ_len {mt : Nat} (P : List Int → Bool) (l : List PR) (h : ∀ x ∈ l, x.ms.length = mt) : (totZ mt (KP P l)).length = mt := by
  have h2 : ∀ x ∈ l.filter (fun x => P x.ids), x.ms.length = mt := fun x hx => h x (List.mem_filter.1 hx).1
  unfold KP
  generalize l.filter (fun x => P x.ids) = m at *
  clear h
  induction m with
  | nil => simp [Kn, totZ]
  | cons x t ih =>
    have hx := h2 x (by simp)
    have i1 := ih (fun y hy => h2 y (by simp [hy]))
    rw [Kn]
    cases hk : Kn t with
    | none => simp [oop, totZ, cn, hx]
    | some c =>
      rw [hk] at i1
      simp only [totZ, List.length_map] at i1
      simp [oop, totZ, cop, cn, hx, i1]
/-- What was taken reads on. -/
theorem TakenI.rd {B : Nat} {oa : Option Addr} {oc : Nat} {XS : List Ra} {w w' : World} (h : TakenI B oa oc XS w) {S : List Nat} (k : Kp S w w') (hS : ∀ b ∈ S, b < B ∨ w.heap.size ≤ b) : RdS racells 5 w' oa oc XS ∧ ∀ x ∈ XS, RaRd w' x := by
  have hne : ∀ {e : TypeId} {ad : Option Addr} {cap : Nat} {l : List Int}, Own w B e .i64 ad cap l → Rd w' .i64 ad cap l := fun ho => (ho.keep k (fun b hb hb2 => by
    have h1 := ho.ob_ge b hb
    have h2 := hS b hb2
    omega)).rd
  refine ⟨(h.own.keep k (fun b hb hb2 => by
    have h1 := h.own.ob_ge b hb
    have h2 := hS b hb2
    omega)).rd ralies, fun x hx => ?_⟩
  have h1 := h.rec' x hx
  exact ⟨hne h1.1, hne h1.2.1, hne h1.2.2.1, hne h1.2.2.2⟩
theorem sumZ_len (mt : Nat) (l : List PR) (h : ∀ x ∈ l, x.ms.length = mt) : (sumZ mt l).length = mt := by
  rw [(tot_eq mt l h).2]
  have : ∀ l : List PR, (∀ x ∈ l, x.ms.length = mt) → ∀ c, Kn l = some c → c.2.length = mt := fun l => by
    induction l with
    | nil => intro _ c hc; cases hc
    | cons x t ih =>
      intro hm c hc
      have hx := hm x (by simp)
      cases hk : Kn t with
      | none => rw [Kn, hk] at hc; cases hc; exact hx
      | some c2 =>
        rw [Kn, hk] at hc
        cases hc
        show (List.zipWith mrg1 x.ms c2.2).length = mt
        rw [List.length_zipWith, hx, ih (fun y hy => hm y (by simp [hy])) c2 hk, Nat.min_self]
  cases hk : Kn l with
  | none => simp [totZ]
  | some c => simp [totZ, this l h c hk]

theorem OwnS.row1 {α : Type} {f : α → List Value} {w : World} {B g : Nat} {e : TypeId} {l : List α} {cs : Array Value} (hB : B ≤ g) (h : w.heap[g]? = some (.cells cs e)) (hc : cs.toList = l.flatMap f) (hl : cs.size = l.length) (hb : l.length ≤ 9223372036854775807) : OwnS f 1 w B e (some ⟨g, 0, none⟩) l.length l :=
  .inr ⟨g, cs, rfl, hB, h, by omega, Nat.le_refl _, hb, by rw [Nat.mul_one, ← hl, ← hc]; exact List.take_of_length_le (by simp)⟩
theorem OwnS.put0 {w : World} {B : Nat} {e : TypeId} {g cap : Nat} {l : List Ih} (h : OwnS icells 1 w B e (some ⟨g, 0, none⟩) cap l) {i : Nat} (hi : i < l.length) (y : Ih) :
    (∃ u, w.cell? ⟨g, i, none⟩ = some u) ∧ w.frozen? ⟨g, i, none⟩ = false ∧ OwnS icells 1 (w.setCell ⟨g, i, none⟩ (.slice y.ad y.n y.cap)) B e (some ⟨g, 0, none⟩) cap (l.set i y) := by
  obtain ⟨g', h1, -, -, h4, h5, h6, -⟩ := h.put1 ilies hi y 0 (.slice y.ad y.n y.cap) (by omega) rfl
  cases h1
  simp only [Nat.mul_one, Nat.add_zero] at h4 h5 h6
  exact ⟨h4, h5, h6⟩
theorem OwnS.get0 {w : World} {B : Nat} {e : TypeId} {g cap : Nat} {l : List Ih} (h : OwnS icells 1 w B e (some ⟨g, 0, none⟩) cap l) {i : Nat} {y : Ih} (hy : l[i]? = some y) : w.cell? ⟨g, i, none⟩ = some (.slice y.ad y.n y.cap) := by
  obtain ⟨hi, rfl⟩ := List.getElem?_eq_some_iff.1 hy
  obtain ⟨g', h1, h2⟩ := (h.rd ilies).2.2 i hi
  obtain ⟨h2, h3⟩ := h2
  cases h2
  have := h3 0 (by omega)
  simpa [icells] using this
/-- What stands between the two trees. -/
structure LvI (w1 : World) (C E dn : Nat) (C0 : Int) (Z0 : List Int) (i : Nat) (DL : List Ih) (w : World) : Prop where
  kp : Kp [] w1 w
  c : Own w w1.heap.size 74 .i64 (some ⟨C, 0, none⟩) 2 [if 0 < i then C0 else 0, if 1 < i then C0 else 0]
  d : OwnS icells 1 w w1.heap.size 75 (some ⟨E, 0, none⟩) 2 DL
  dl : DL.length = 2
  z : ∀ j, j < i → ∃ q, DL[j]? = some ⟨some ⟨q, 0, none⟩, dn, dn, Z0⟩ ∧ Own w w1.heap.size 2 .i64 (some ⟨q, 0, none⟩) dn Z0
theorem KP_true (l : List PR) : KP (fun _ => true) l = Kn l := by
  unfold KP
  rw [List.filter_eq_self.2 (fun _ _ => rfl)]
def addS (b : Int) (s : S3) : Int := IntKind.i64.wrap (b + s.s)
/-- Sums of which the first k are added. -/
def zipK (Z : List Int) (ms : List S3) (k : Nat) : List Int := List.zipWith addS (Z.take k) (ms.take k) ++ Z.drop k
theorem zipK_zero (Z : List Int) (ms : List S3) : zipK Z ms 0 = Z := by simp [zipK]
theorem zipK_len {Z : List Int} {ms : List S3} (h : Z.length = ms.length) (k : Nat) : (zipK Z ms k).length = Z.length := by
  unfold zipK
  rw [List.length_append, List.length_zipWith, List.length_take, List.length_take, List.length_drop]; omega
theorem zipK_nth {Z : List Int} {ms : List S3} (h : Z.length = ms.length) {k : Nat} (hk : k < Z.length) : nth (zipK Z ms k) k = nth Z k := by
  have hl : (List.zipWith addS (Z.take k) (ms.take k)).length = k := by rw [List.length_zipWith, List.length_take, List.length_take]; omega
  unfold zipK nth
  rw [List.getD_eq_getElem?_getD, List.getElem?_append_right (by omega), hl, Nat.sub_self, List.getElem?_drop, Nat.add_zero, List.getD_eq_getElem?_getD]
theorem zipK_set {Z : List Int} {ms : List S3} (h : Z.length = ms.length) {k : Nat} (hk : k < Z.length) : (zipK Z ms k).set k (IntKind.i64.wrap (nth Z k + nth (ms.map (·.s)) k)) = zipK Z ms (k + 1) := by
  have hl : (List.zipWith addS (Z.take k) (ms.take k)).length = k := by rw [List.length_zipWith, List.length_take, List.length_take]; omega
  have hkm : k < ms.length := by omega
  unfold zipK
  rw [List.set_append_right _ _ (by omega), hl, Nat.sub_self, List.drop_eq_getElem_cons hk, List.set_cons_zero, List.take_succ_eq_append_getElem hk, List.take_succ_eq_append_getElem hkm, List.zipWith_append (by rw [List.length_take, List.length_take]; omega), List.append_assoc]
  simp [addS, nth, hk, hkm]
theorem zipK_full {Z : List Int} {ms : List S3} {k : Nat} (h : Z.length = ms.length) (hk : k = Z.length) : zipK Z ms k = List.zipWith addS Z ms := by
  subst hk
  unfold zipK
  rw [List.take_of_length_le (Nat.le_refl _), List.take_of_length_le (by omega), List.drop_eq_nil_of_le (Nat.le_refl _), List.append_nil]

theorem ix2 (a b : Int) (wx : World) : (Instr.index 76 (.agg #[.int .i64 a, .int .i64 b]) (.int .i64 0)).run Try.prog wx = .ok (.int .i64 a) wx ∧ (Instr.index 76 (.agg #[.int .i64 a, .int .i64 b]) (.int .i64 1)).run Try.prog wx = .ok (.int .i64 b) wx := by
  obtain ⟨i, h1, h2, h3, h4⟩ := info_parts infoInt
  constructor
  · simp [Instr.index, run_underlying Try.underlying76, asIntOf, go_sem, sizeOf, typeInfo, h1, h3]
  · simp [Instr.index, run_underlying Try.underlying76, asIntOf, go_sem, sizeOf, typeInfo, h1, h3]

set_option maxHeartbeats 6400000 in
theorem walkLeaves_any (sa : Option Addr) (sn sc : Nat) (S : List Ih) (hS : sn = S.length) (ma : Option Addr) (mn mc : Nat) (many : List Int) (hM : mn = many.length) (da : Option Addr) (dn dc : Nat) (D : List Ih) (hD : dn = D.length) (one two : Int)
    (fa : Option Addr) (fn fc : Nat) (MF : List Bh) (hF : fn = MF.length) (ba : Option Addr) (bn bc : Nat) (BF : List Bool) (hB : bn = BF.length) (w : World) (hs : RdI w sa sc S) (hm : Rd w .i64 ma mc many) (hd : RdI w da dc D) (hf : RdM w fa fc MF) (hb : RdF w ba bc BF) :
    Calls Try.prog 10 #[.slice sa sn sc, .slice ma mn mc, .slice da dn dc, .int .i64 one, .int .i64 two, .slice fa fn fc, .slice ba bn bc] w fun e w' => e = .returned (.bool true) ∧ Kp [] w w' := by
  have HS := Lib.hid hs
  have HM := Lib.hid hm
  have HD := Lib.hid hd
  have HMF := Lib.hid hf
  have HBF := Lib.hid hb
  have HSN := Lib.hid hS
  have HMN := Lib.hid hM
  have HDN := Lib.hid hD
  have HFN := Lib.hid hF
  have HBN := Lib.hid hB
  have hc1 : mn ≤ mc := by rw [hM]; exact hm.1
  have hc2 := hm.2.1
  have hdc : dn ≤ dc := by rw [hD]; exact hd.1.1
  have hdc2 := hd.1.2.1
  have HGR := Lib.hid (r19Great_any sa sn sc S hS da dn dc D hD 80 w hs hd)
  have HG2 : Hid (∀ W, W = w → Calls Try.prog 27 #[.slice fa fn fc, .slice ba bn bc] W fun e w' => e = .returned (.bool (great20 (lisF MF) bn)) ∧ w' = W) := Lib.hid (fun W hW => by rw [hW]; exact r20Great_any fa fn fc MF hF ba bn bc w hf)
  have HSL : Hid ((lis S).length = sn) := Lib.hid (by rw [hS]; simp [lis])
  have HDL : Hid ((lis D).length = dn) := Lib.hid (by rw [hD]; simp [lis])
  obtain ⟨v, hv⟩ : ∃ v, v = great19 (lis S) (lis D) 80 := ⟨_, rfl⟩
  obtain ⟨v2, hv2⟩ : ∃ v, v = great20 (lisF MF) bn := ⟨_, rfl⟩
  rw [← hv] at HGR
  rw [← hv2] at HG2
  have HV := Lib.hid hv
  clear hs hm hd hS hM hD hv hf hb hF hB hv2
  go_enter Try.func10, Try.ntmps10
  go_upto_region 1 with (fail)
  go_cut [53] (fun v53 wx => ∃ b : Bool, v53 = .bool b ∧ Hid (b = false → v = false ∧ fn = sn ∧ bn = sn) ∧ wx = w)
  case first =>
    go_wp2_with fail
    refine HGR.out.mono ?_
    rintro e w1 ⟨rfl, rfl⟩
    cases v
    rotate_left
    · go_wp2_with fail
      go_meet
      exact ⟨true, rfl, Lib.hid (fun h => by cases h), rfl⟩
    by_cases h10 : (10 : Int) < (mn : Int)
    · go_wp2_with fail
      go_meet
      exact ⟨true, rfl, Lib.hid (fun h => by cases h), rfl⟩
    go_wp2_with fail
    refine (HG2.out w1 rfl).mono ?_
    rintro e w2 ⟨rfl, rfl⟩
    cases v2
    rotate_left
    · go_wp2_with fail
      go_meet
      exact ⟨true, rfl, Lib.hid (fun h => by cases h), rfl⟩
    by_cases h1 : fn = sn
    · have hb1 : ((fn : Int) != (sn : Int)) = false := by simp [h1]
      by_cases h2 : bn = sn
      · have hb2 : ((bn : Int) != (sn : Int)) = false := by simp [h2]
        have HF : Hid (fn = sn ∧ bn = sn) := Lib.hid ⟨h1, h2⟩
        clear h1 h2
        go_wp2_with fail
        go_meet
        exact ⟨false, by first | rfl | (simp; omega), Lib.hid (fun _ => ⟨by first | rfl | trivial, HF.out⟩), rfl⟩
      · have hb2 : ((bn : Int) != (sn : Int)) = true := by simp; omega
        clear h1 h2
        go_wp2_with fail
        go_meet
        exact ⟨true, rfl, Lib.hid (fun h => by cases h), rfl⟩
    · have hb1 : ((fn : Int) != (sn : Int)) = true := by simp; omega
      clear h1
      go_wp2_with fail
      go_meet
      exact ⟨true, rfl, Lib.hid (fun h => by cases h), rfl⟩
  obtain ⟨b, rfl, HBV, rfl⟩ := hcut
  obtain ⟨w1, rfl⟩ : ∃ w1 : World, w1 = wc := ⟨_, rfl⟩
  cases b
  rotate_left
  · go_wp2_with fail
    refine (known20_any w1).mono ?_
    rintro e w2 ⟨rfl, kp2⟩
    go_wp2_with fail
    go_ret
    exact ⟨rfl, kp2⟩
  obtain ⟨hvf, hfs, hbs⟩ := HBV.out rfl
  have HFS := Lib.hid hfs
  have HBS := Lib.hid hbs
  have hgr := great_no (HV.out.symm.trans hvf)
  have hr0 := row0_le hgr.1
  have hs10 : sn ≤ 10 := by have := hgr.2.2.1; rw [HSL.out] at this; exact this
  have hd10 : dn ≤ 10 := by have := hgr.2.2.2; rw [HDL.out] at this; exact this
  have HR0 := Lib.hid hr0
  clear hgr hr0 HGR HG2 HBV hvf hfs hbs
  go_upto_region 5 with (fail)
  obtain ⟨C, hC⟩ : ∃ C, C = w1.heap.size := ⟨_, rfl⟩
  obtain ⟨E, hE⟩ : ∃ E, E = w1.heap.size + 1 := ⟨_, rfl⟩
  obtain ⟨w2, hw2⟩ : ∃ w2, w2 = (w1.alloc (Obj.cells #[.int .i64 0, .int .i64 0] 74)).alloc (Obj.cells #[.slice none 0 0, .slice none 0 0] 75) := ⟨_, rfl⟩
  rw [← hw2, ← hE, ← hC]
  obtain ⟨K0, hK0⟩ : ∃ K0, K0 = KP (fun i => true && okRec (lisF MF) i) (rowsP (lis S) (lis D)) := ⟨_, rfl⟩
  have k2 : Kp [] w1 w2 := by rw [hw2]; exact ((Kp.refl [] w1).alloc _).alloc _
  have HLV0 : Hid (LvI w1 C E dn (totC K0) (totZ dn K0) 0 [⟨none, 0, 0, []⟩, ⟨none, 0, 0, []⟩] w2) := Lib.hid ⟨k2,
    by
      have := Own.row (w := w2) (base := w1.heap.size) (e := 74) (k := .i64) (g := C) (zs := [0, 0]) (by omega) (by rw [hw2]; exact cells_alloc (heap_alloc_at hC)) (by simp)
      simpa using this,
    OwnS.row1 (l := [(⟨none, 0, 0, []⟩ : Ih), ⟨none, 0, 0, []⟩]) (by omega) (by rw [hw2]; exact heap_alloc_at (by rw [hE]; simp)) rfl rfl (by simp), rfl, fun j hj => by omega⟩
  have HCE : Hid (C < w2.heap.size ∧ E < w2.heap.size ∧ w1.heap.size ≤ C ∧ w1.heap.size ≤ E ∧ C ≠ E) := Lib.hid (by rw [hw2]; simp; omega)
  have HK0 := Lib.hid hK0
  have HTL : Hid ((totZ dn K0).length = dn) := Lib.hid (by
    rw [hK0]
    exact totZ_len _ _ (fun x hx => by
      obtain ⟨i, -, rfl⟩ := List.mem_map.1 hx
      show (List.map _ _).length = dn
      rw [List.length_map]; exact HDL.out))
  have K2 := Lib.hid k2
  clear hw2 hC hE k2 hK0
  go_wp2_with fail
  go_loopw [58] (fun vi wr => ∃ (i : Nat) (DL : List Ih), i ≤ 2 ∧ vi = .int .i64 i ∧ Hid (LvI w1 C E dn (totC K0) (totZ dn K0) i DL wr) ∧ Hid (w2.heap.size ≤ wr.heap.size)) (fun vi _ => 2 - (intOf vi).toNat)
  case atStart => exact ⟨0, _, by omega, rfl, HLV0, Lib.hid (Nat.le_refl _)⟩
  case round =>
    obtain ⟨i, DL, hi, rfl, HLV, HSZ⟩ := hrel
    obtain ⟨wo, rfl⟩ : ∃ wo : World, wo = wr := ⟨_, rfl⟩
    by_cases hlt : i < 2
    · go_upto_region 7 with (fail)
      go_cut [17, 18] (fun v17 v18 wx => ∃ lfv : Int, v17 = .int .i64 i ∧ v18 = .int .i64 lfv ∧ wx = wo)
      case first =>
        have hi0 := fun wx => (ix2 one two wx).1
        have hi1 := fun wx => (ix2 one two wx).2
        obtain rfl | rfl : i = 0 ∨ i = 1 := by omega
        · go_wp2_with fail
          go_meet
          exact ⟨one, rfl, rfl, rfl⟩
        · go_wp2_with fail
          go_meet
          exact ⟨two, rfl, rfl, rfl⟩
      obtain ⟨lfv, rfl, rfl, rfl⟩ := hcut
      obtain ⟨w3, rfl⟩ : ∃ w3 : World, w3 = wc := ⟨_, rfl⟩
      have HOF := Lib.hid (stOf_any sa sn sc S HSN.out ma mn mc many HMN.out da dn dc D HDN.out lfv w3 (HS.out.keep0 HLV.out.kp) (HM.out.keep0 HLV.out.kp) (HD.out.keep0 HLV.out.kp) HR0.out)
      go_wp2_with fail
      refine HOF.out.mono ?_
      rintro e w4 ⟨kp4, ⟨h1, rfl⟩ | ⟨hmay, T, lf, rfl, hlf, hT, ra, rc, RL, na, nc, NL, hTr, hEq⟩⟩
      · go_wp2_with fail
        refine (known20_any w4).mono ?_
        rintro e w5 ⟨rfl, kp5⟩
        have HF := Lib.hid ((HLV.out.kp.tr kp4).tr kp5)
        clear kp4 kp5
        go_wp2_with fail
        go_ret
        exact ⟨rfl, HF.out⟩
      subst hlf
      have hok := mayS_ok hmay
      rw [HSL.out] at hok
      obtain ⟨hk1, hk8, -, -, -, -, -, -⟩ := hok
      have hbt := built_ofP (S := lis S) (M := lis D) (leaf := lf) (n := (rowP (lis S) 0).length) (by rw [HSL.out]; exact hk8) rfl HR0.out (mayS_ge hmay) (lisF MF) BF
      obtain ⟨q1, q2, q3⟩ := walk_law (S := lis S) (M := lis D) (leaf := lf) (n := (rowP (lis S) 0).length) rfl HR0.out (mayS_ge hmay) (lisF MF) BF
      rw [← hEq] at hbt q1 q2 q3
      dsimp only at hbt q1 q2 q3
      rw [HSL.out] at hbt q1 q2 q3
      rw [HSL.out, HDL.out] at hTr
      obtain ⟨L, hL⟩ : ∃ L, L = askN sn (RL.map (pr sn)) (NL.map pn) (lisF MF) BF 0 := ⟨_, rfl⟩
      have HTK := Lib.hid (taken20_any w4 hTr hk1 hk8 (by omega) fa fn fc MF HFN.out HFS.out (HMF.out.keep0 (HLV.out.kp.tr kp4)) ba bn bc BF HBN.out HBS.out (HBF.out.keep0 (HLV.out.kp.tr kp4)) hbt q2 (fun x hx => by have := (q3 x hx).1; simpa using this))
      have hLb := hbt.few
      have hq1 := q1 (fun _ => true) (fun j _ ids => rfl)
      rw [← hL] at HTK q3 hLb hq1
      have hmsL : ∀ x ∈ L.map (recAt (RL.map (pr sn))), x.ms.length = dn := fun x hx => by
        obtain ⟨y, hy, rfl⟩ := List.mem_map.1 hx
        have h1 := (q3 y hy).1
        rw [List.length_map] at h1
        have h2 : recAt (RL.map (pr sn)) y = pr sn RL[y] := recAt_get (by rw [List.getElem?_map, List.getElem?_eq_getElem h1]; rfl)
        rw [h2]
        exact (hTr.good _ (List.getElem_mem h1)).2.1
      obtain ⟨PL, hPL⟩ : ∃ PL, PL = L.map (recAt (RL.map (pr sn))) := ⟨_, rfl⟩
      rw [← hPL] at hmsL hq1 HTK
      have HMS := Lib.hid hmsL
      have HTOT : Hid (sumC PL = totC K0 ∧ sumZ dn PL = totZ dn K0) := Lib.hid (by
        rw [HK0.out, ← hq1, KP_true]
        exact tot_eq dn PL hmsL)
      obtain ⟨xn, hxn⟩ : ∃ xn, xn = L.length := ⟨_, rfl⟩
      rw [← hxn] at HTK hLb
      have HXN : Hid (xn = PL.length) := Lib.hid (by rw [hPL, List.length_map, hxn])
      have K4 := Lib.hid kp4
      clear hmay hT hTr hEq hbt q1 q2 q3 hq1 hmsL hL hPL hxn kp4 HOF
      go_wp2_with fail
      refine HTK.out.mono ?_
      rintro e w5 ⟨oa, oc, XS, rfl, hxs, htk, kp5⟩
      have HXS := Lib.hid hxs
      have HTI := Lib.hid htk
      have HK5 := Lib.hid ((HLV.out.kp.tr K4.out).tr kp5)
      have K45 := Lib.hid (K4.out.tr kp5)
      have HB4 : Hid (w2.heap.size ≤ w4.heap.size ∧ w4.heap.size ≤ w5.heap.size) := Lib.hid ⟨Nat.le_trans HSZ.out K4.out.size, kp5.size⟩
      clear hxs htk kp5 HTK
      have hmk : ∀ wx : World, _ := fun wx => make_ints (P := Try.prog) wx 32 2 .i64 .i64 .i64 dn 8 Try.underlying32 infoI64 (by omega) (by omega)
      have hdl : i < DL.length := by rw [HLV.out.dl]; exact hlt
      obtain ⟨q, hq⟩ : ∃ q, q = w5.heap.size := ⟨_, rfl⟩
      obtain ⟨w6, hw6⟩ : ∃ w6, w6 = w5.alloc (Obj.cells (ints .i64 (List.replicate dn 0)) 2) := ⟨_, rfl⟩
      have k6 : Kp [] w5 w6 := by rw [hw6]; exact (Kp.refl [] w5).alloc _
      obtain ⟨⟨u0, ce⟩, fe, hde⟩ := ((HLV.out.d.keep0 K45.out).keep0 k6).put0 hdl ⟨some ⟨q, 0, none⟩, dn, dn, totZ dn K0⟩
      dsimp only at hde
      have HW6 := Lib.hid hw6
      have HQ := Lib.hid hq
      have HDE := Lib.hid hde
      have HCELL : Hid (∀ W, W = w5.alloc (Obj.cells (ints .i64 (List.replicate dn 0)) 2) → W.cell? ⟨E, i, none⟩ = some u0 ∧ W.frozen? ⟨E, i, none⟩ = false) := Lib.hid (fun W hW => by rw [hW, ← hw6]; exact ⟨ce, fe⟩)
      have cE := (HCELL.out _ rfl).1
      have fE := (HCELL.out _ rfl).2
      clear ce fe hde k6 hw6 hq
      go_upto_region 15 with (fail)
      obtain ⟨wt, hwt⟩ : ∃ wt, wt = (w5.alloc (Obj.cells (ints IntKind.i64 (List.replicate dn 0)) 2)).setCell ⟨E, i, none⟩ (Value.slice (some ⟨w5.heap.size, 0, none⟩) dn dn) := ⟨_, rfl⟩
      rw [← hwt]
      have hw6 := HW6.out
      have hqq := HQ.out
      rw [← hw6, ← hqq] at hwt
      have k6 : Kp [] w5 w6 := by rw [hw6]; exact (Kp.refl [] w5).alloc _
      have kt : Kp [E] w5 wt := by rw [hwt]; exact (k6.trans ((Kp.refl [E] w6).setCell _ _ (by simp)) (by simp) (fun _ h => .inl h))
      have hCE := HCE.out
      have hB4 := HB4.out
      have hwts : wt.heap.size = w5.heap.size + 1 := by rw [hwt, hw6]; simp
      have HQW : Hid (w5.heap.size ≤ q ∧ q < wt.heap.size ∧ C < q ∧ E < q ∧ C < w4.heap.size ∧ E < w4.heap.size ∧ C ≠ E ∧ w1.heap.size ≤ C ∧ w1.heap.size ≤ E) := Lib.hid (by omega)
      have HDt : Hid (OwnS icells 1 wt w1.heap.size 75 (some ⟨E, 0, none⟩) 2 (DL.set i ⟨some ⟨q, 0, none⟩, dn, dn, totZ dn K0⟩)) := Lib.hid (by rw [hwt, hqq, hw6] ; have := HDE.out; rw [hqq, hw6] at this; exact this)
      obtain ⟨CL, hCL⟩ : ∃ CL : List Int, CL = [if 0 < i then totC K0 else 0, if 1 < i then totC K0 else 0] := ⟨_, rfl⟩
      have hCLl : CL.length = 2 := by rw [hCL]; rfl
      have hCLi : CL.set i 0 = CL := by
        rw [hCL]
        obtain rfl | rfl : i = 0 ∨ i = 1 := by omega
        · rfl
        · rfl
      have HCt : Hid (Own wt w1.heap.size 74 .i64 (some ⟨C, 0, none⟩) 2 (CL.set i (sumC (PL.take 0)))) := Lib.hid (by
        have h1 := (HLV.out.c.keep0 K45.out).keep kt (fun b hb hb2 => by simp [ob] at hb hb2; omega)
        rw [← hCL] at h1
        rw [List.take_zero]
        show Own wt _ _ _ _ _ (CL.set i 0)
        rw [hCLi]; exact h1)
      have HZt : Hid (Own wt w1.heap.size 2 .i64 (some ⟨q, 0, none⟩) dn (sumZ dn (PL.take 0))) := Lib.hid (by
        have h1 := Own.row (w := w6) (base := w1.heap.size) (e := 2) (k := .i64) (g := q) (zs := List.replicate dn 0) (by omega) (by rw [hw6]; exact heap_alloc_at hqq) (by simp; omega)
        rw [List.length_replicate] at h1
        rw [List.take_zero, hwt]
        exact h1.keep ((Kp.refl [E] w6).setCell _ _ (by simp)) (fun b hb hb2 => by
          have h2 : b = q := by
            unfold ob at hb
            split at hb <;> simp at hb
            exact hb
          simp at hb2; omega))
      have HCLL := Lib.hid hCLl
      have HCLE := Lib.hid hCL
      have KT := Lib.hid kt
      have HOLD : Hid (∀ j, j < i → ∃ q', DL[j]? = some ⟨some ⟨q', 0, none⟩, dn, dn, totZ dn K0⟩ ∧ Own wt w1.heap.size 2 .i64 (some ⟨q', 0, none⟩) dn (totZ dn K0) ∧ ∀ b ∈ ob (some ⟨q', 0, none⟩ : Option Addr) dn, b < w5.heap.size) := Lib.hid (fun j hj => by
        obtain ⟨q', z1, z2⟩ := HLV.out.z j hj
        have z3 := z2.keep0 K45.out
        refine ⟨q', z1, z3.keep kt (fun b hb hb2 => ?_), fun b hb => (z3.ob_ge b hb).2⟩
        simp at hb2
        subst hb2
        rcases HLV.out.d.keep0 K45.out with ⟨h, -⟩ | ⟨g, cur, g1, g2, g3, -⟩
        · omega
        · cases g1
          exact ownI_ne z3 g3 (by decide) hb)
      have HXL : Hid (XS.length = xn) := Lib.hid (by rw [HXN.out, ← HXS.out, List.length_map])
      have hocap : xn ≤ oc ∧ oc ≤ 9223372036854775807 := by
        have := HTI.out.own.rd ralies
        exact ⟨by rw [← HXL.out]; exact this.1, this.2.1⟩
      obtain ⟨hoc1, hoc2⟩ := hocap
      clear hwt hw6 hqq k6 kt hCE hB4 hwts hCL hCLl hCLi hmk cE fE hdl
      go_wp2_with fail
      go_loopw [93] (fun vj wr => ∃ j : Nat, j ≤ xn ∧ vj = .int .i64 j ∧ Hid (Own wr w1.heap.size 74 .i64 (some ⟨C, 0, none⟩) 2 (CL.set i (sumC (PL.take j)))) ∧ Hid (Own wr w1.heap.size 2 .i64 (some ⟨q, 0, none⟩) dn (sumZ dn (PL.take j))) ∧ Hid (Kp [C, q] wt wr)) (fun vj _ => xn - (intOf vj).toNat)
      case atStart => exact ⟨0, Nat.zero_le _, rfl, HCt, HZt, Lib.hid (Kp.refl _ _)⟩
      case round =>
        obtain ⟨j, hj, rfl, HC, HZ, HK⟩ := hrel
        obtain ⟨wj, rfl⟩ : ∃ wj : World, wj = wr := ⟨_, rfl⟩
        have HK5J : Hid (Kp [C, E, q] w5 wj) := Lib.hid (KT.out.trans HK.out (U := [C, E, q]) (fun b hb => .inl (by simp at hb; simp [hb])) (fun b hb => .inl (by simp at hb; rcases hb with rfl | rfl <;> simp)))
        by_cases hltj : j < xn
        · have hjx : j < XS.length := by rw [HXL.out]; exact hltj
          have hread := fun W (hW : Kp [C, E, q] w5 W) => HTI.out.rd hW (fun b hb => by
            have := HQW.out
            simp at hb
            omega)
          obtain ⟨ob0, off0, hoa, hcells⟩ := (hread wj HK5J.out).1.2.2 j hjx
          have HRD : Hid (∀ W, Kp [C, E, q] w5 W → RaRd W XS[j]) := Lib.hid (fun W hW => (hread W hW).2 _ (List.getElem_mem hjx))
          have hpj : PL[j]? = some XS[j].pr := by rw [← HXS.out, List.getElem?_map, List.getElem?_eq_getElem hjx]; rfl
          obtain ⟨x, hx⟩ : ∃ x, x = XS[j] := ⟨_, rfl⟩
          rw [← hx] at hcells HRD hpj
          obtain ⟨ids, ia, ic, cnt, ms, sa', sc', la', lc', ga', gc'⟩ := x
          have hmsl : ms.length = dn := HMS.out _ (List.mem_of_getElem? hpj)
          have HPJ : Hid (PL.take (j + 1) = PL.take j ++ [⟨ids, cnt, ms⟩]) := Lib.hid (take_snoc hpj)
          have hrg : wj.rangeAt ob0 (off0 + j * 5) [.slice ia ids.length ic, .int .i64 cnt, .slice sa' dn sc', .slice la' dn lc', .slice ga' dn gc'] := fun s v hv => by
            have hs : s < 5 := (List.getElem?_eq_some_iff.1 hv).1
            rw [hcells s hs, ← hv, ← hmsl]; rfl
          have HRG := Lib.hid hrg
          have HMSL : Hid (dn = ms.length) := Lib.hid hmsl.symm
          subst hoa
          clear hread hcells hpj hx hmsl hrg hjx
          go_upto_region 18 with first
            | (refine wpList_load_mid rfl 34 _ rfl ob0 (off0 + j * 5) rfl [.slice ia ids.length ic, .int .i64 cnt, .slice sa' dn sc', .slice la' dn lc', .slice ga' dn gc'] _ HRG.out Try.underlying34 rfl (by kernel_rfl) ?_)
            | (refine wpList_store_row rfl 34 _ _ rfl wj.heap.size #[.slice ia ids.length ic, .int .i64 cnt, .slice sa' dn sc', .slice la' dn lc', .slice ga' dn gc'] rfl rfl 34 _ (heap_alloc_at rfl) (by kernel_rfl) rfl (by simp [Value.oneCell']) ?_)
          obtain ⟨bx, hbx⟩ : ∃ q, q = wj.heap.size := ⟨_, rfl⟩
          generalize hz : (wj.alloc (Obj.cells _ _)).setRow _ _ = w12
          rw [← hbx] at hz ⊢
          have hrp : w12.heap[bx]? = some (.cells #[.slice ia ids.length ic, .int .i64 cnt, .slice sa' dn sc', .slice la' dn lc', .slice ga' dn gc'] 34) := by rw [← hz]; exact setRow_heap _ bx _ _ _ _ (heap_alloc_at hbx)
          have kp : Kp [] wj w12 := by rw [← hz]; exact ((Kp.refl [] wj).alloc _).setRowF _ _ (.inr (by omega))
          have HRX := Lib.hid hrp
          have HKX := Lib.hid kp
          have HBX : Hid (C < bx ∧ q < bx) := Lib.hid (by
            have h1 := HQW.out
            have h2 := HK.out.size
            omega)
          obtain ⟨cv, hcv⟩ : ∃ cv, cv = sumC (PL.take j) := ⟨_, rfl⟩
          obtain ⟨gC, hgC, cC, fC, -, -⟩ := (HC.out.keep0 kp).at' (i := i) (by rw [List.length_set, HCLL.out]; exact hlt)
          cases hgC
          have hnv : nth (CL.set i (sumC (PL.take j))) i = cv := by
            unfold nth
            rw [List.getD_eq_getElem?_getD, List.getElem?_set_self (by rw [HCLL.out]; exact hlt), hcv]; rfl
          rw [hnv] at cC
          have HCV := Lib.hid hcv
          obtain ⟨cw, hcw⟩ : ∃ cw, cw = IntKind.i64.wrap (cv + cnt) := ⟨_, rfl⟩
          have HCW : Hid (IntKind.i64.wrap (cv + cnt) = cw ∧ wrap64 (cv + cnt) = cw) := Lib.hid ⟨hcw.symm, by rw [hcw, IntKind.wrap_i64]; unfold wrap64; rfl⟩
          clear hcw
          have CC := Lib.hid cC
          clear hz hrp kp hbx hcv hnv cC fC
          simp only [Act.put]
          refine wp_region_GS (by kernel_rfl) [] [.val (.int .i64 (i : Int)), .val (.pointer (some ⟨C, i, none⟩)), .val (.int .i64 cv), .val (.pointer (some ⟨bx, 1, none⟩)), .val (.int .i64 cnt), .val (.int .i64 cw), .val (.pointer (some ⟨C, i, none⟩))] [[(17, none)], [(15, none), (97, some 0)], [(98, some 1)], [(24, none)], [(100, some 3)], [(99, some 2), (101, some 4)], [(15, none), (97, some 0)]] [] (fun _ _ => True) 7 rfl (by kernel_rfl) (by kernel_rfl) (by kernel_rfl) (by kernel_rfl) (by kernel_rfl) (by simp) (fun _ _ _ h _ => h) trivial ?_ ?_
          · refine (ObG.free rfl ?o0 (ObG.free rfl ?o1 (ObG.free rfl ?o2 (ObG.free rfl ?o3 (ObG.free rfl ?o4 (ObG.free rfl ?o5 (ObG.free rfl ?o6 trivial)))))))
            case o0 => intro aR wR mR hR hI; replace hR := hR.undrew; intro (h17 : aR.tmps[17]? = some (.int .i64 (i : Int))); exact exec_val (c := .int .i64 (i : Int)) (wanted_none rfl) (by go_simp) rfl
            case o1 => intro aR wR mR hR hI; replace hR := hR.undrew; intro (h15 : aR.tmps[15]? = some (.pointer (some ⟨C, 0, none⟩))); intro v97 h97 e97; replace e97 : v97 = .int .i64 (i : Int) := e97; subst e97; exact exec_val (c := .pointer (some ⟨C, i, none⟩)) (wanted_none rfl) (by go_simp) rfl
            case o2 => intro aR wR mR hR hI; replace hR := hR.undrew; intro v98 h98 e98; replace e98 : v98 = .pointer (some ⟨C, i, none⟩) := e98; subst e98; (have h1 := hR.cell CC.out (by simp)); exact exec_val (c := .int .i64 cv) (wanted_none rfl) (by go_simp) rfl
            case o3 => intro aR wR mR hR hI; replace hR := hR.undrew; intro (h24 : aR.tmps[24]? = some (.pointer (some ⟨bx, 0, none⟩))); exact exec_val (c := .pointer (some ⟨bx, 1, none⟩)) (wanted_none rfl) (by go_simp) rfl
            case o4 => intro aR wR mR hR hI; replace hR := hR.undrew; intro v100 h100 e100; replace e100 : v100 = .pointer (some ⟨bx, 1, none⟩) := e100; subst e100; (have h1 : wR.cell? ⟨bx, 1, none⟩ = some (.int .i64 cnt) := (by rw [cell_of_row wR bx 1 _ _ _ (hR.get HRX.out (by simp))]; rfl)); exact exec_val (c := .int .i64 cnt) (wanted_none rfl) (by go_simp) rfl
            case o5 => intro aR wR mR hR hI; replace hR := hR.undrew; intro v99 h99 e99; replace e99 : v99 = .int .i64 cv := e99; subst e99; intro v101 h101 e101; replace e101 : v101 = .int .i64 cnt := e101; subst e101; (have hcw := HCW.out.1; have hcw2 := HCW.out.2); exact exec_val (c := .int .i64 cw) (wanted_none rfl) (by go_simp) rfl
            case o6 => intro aR wR mR hR hI; replace hR := hR.undrew; intro (h15 : aR.tmps[15]? = some (.pointer (some ⟨C, 0, none⟩))); intro v97 h97 e97; replace e97 : v97 = .int .i64 (i : Int) := e97; subst e97; exact exec_val (c := .pointer (some ⟨C, i, none⟩)) (wanted_none rfl) (by go_simp) rfl
          · intro vs wR hR hI hV
            obtain ⟨e0, e1, e2, e3, e4, e5, e6, -⟩ := hV
            replace e0 : vs 0 = .int .i64 (i : Int) := e0
            replace e1 : vs 1 = .pointer (some ⟨C, i, none⟩) := e1
            replace e2 : vs 2 = .int .i64 cv := e2
            replace e3 : vs 3 = .pointer (some ⟨bx, 1, none⟩) := e3
            replace e4 : vs 4 = .int .i64 cnt := e4
            replace e5 : vs 5 = .int .i64 cw := e5
            replace e6 : vs 6 = .pointer (some ⟨C, i, none⟩) := e6
            simp only [putAll, List.take_succ_cons, List.take_zero, List.drop_succ_cons, List.drop_zero, e0, e1, e2, e3, e4, e5, e6, Nat.reduceAdd, Nat.zero_add]
            clear e0 e1 e2 e3 e4 e5 e6
            try simp only [List.setIfInBounds_toArray, List.set_cons_succ, List.set_cons_zero]
            have cC := hR.cell CC.out (by simp)
            have hO12 := (HC.out.keep0 HKX.out).keep0 hR
            obtain ⟨gC2, hgC2, -, fC, -, -⟩ := hO12.at' (i := i) (by rw [List.length_set, HCLL.out]; exact hlt)
            cases hgC2
            have HC19 : Hid (Own (wR.setCell ⟨C, i, none⟩ (.int .i64 cw)) w1.heap.size 74 .i64 (some ⟨C, 0, none⟩) 2 (CL.set i (sumC (PL.take (j + 1))))) := Lib.hid (by
              have h1 := hO12.set i cw
              rw [List.set_set] at h1
              rw [HPJ.out, sumC_snoc, ← HCV.out]; dsimp only; rw [HCW.out.1]; exact h1)
            have kC : Kp [C] wR (wR.setCell ⟨C, i, none⟩ (.int .i64 cw)) := (Kp.refl [C] wR).setCell _ _ (by simp)
            have HKC : Hid (Kp [C] wj (wR.setCell ⟨C, i, none⟩ (.int .i64 cw))) := Lib.hid ((HKX.out.tr hR).trans kC (by simp) (fun _ h => .inl h))
            have HRX19 : Hid ((wR.setCell ⟨C, i, none⟩ (.int .i64 cw)).heap[bx]? = some (.cells #[.slice ia ids.length ic, .int .i64 cnt, .slice sa' dn sc', .slice la' dn lc', .slice ga' dn gc'] 34)) := Lib.hid (kC.get (hR.get HRX.out (by simp)) (by have := HBX.out; simp; omega))
            clear hO12 kC hR
            go_upto_region 19 with (fail)
            generalize wR.setCell ⟨C, i, none⟩ (.int .i64 cw) = w19 at *
            have p2 : w19.cell? ⟨bx, 2, none⟩ = some (.slice sa' dn sc') := by rw [cell_of_row w19 bx 2 _ _ _ HRX19.out]; rfl
            have hbb : ((dn : Int) != (dn : Int)) = false := by simp
            have HKW : Hid (Kp [C, q] wt w19) := Lib.hid (HK.out.trans HKC.out (U := [C, q]) (fun _ h => .inl h) (fun b hb => .inl (by simp at hb; simp [hb])))
            have HZ19 : Hid (Own w19 w1.heap.size 2 .i64 (some ⟨q, 0, none⟩) dn (sumZ dn (PL.take j))) := Lib.hid (HZ.out.keep HKC.out (fun b hb hb2 => by
              have h2 : b = q := by
                unfold ob at hb
                split at hb <;> simp at hb
                exact hb
              have := HQW.out
              simp at hb2; omega))
            have HD19 : Hid (OwnS icells 1 w19 w1.heap.size 75 (some ⟨E, 0, none⟩) 2 (DL.set i ⟨some ⟨q, 0, none⟩, dn, dn, totZ dn K0⟩)) := Lib.hid (HDt.out.keep HKW.out (fun b hb hb2 => by
              simp [ob] at hb
              have := HQW.out
              simp at hb2; omega))
            have HK519 : Hid (Kp [C, E, q] w5 w19) := Lib.hid (HK5J.out.trans HKC.out (U := [C, E, q]) (fun _ h => .inl h) (fun b hb => .inl (by simp at hb; simp [hb])))
            have hzl : (sumZ dn (PL.take j)).length = dn := sumZ_len dn _ (fun x hx => HMS.out x (List.mem_of_mem_take hx))
            obtain ⟨Zc, hZc⟩ : ∃ Zc, Zc = sumZ dn (PL.take j) := ⟨_, rfl⟩
            rw [← hZc] at hzl HZ19
            have HZC := Lib.hid hZc
            have HZL := Lib.hid hzl
            have HZM : Hid (Zc.length = ms.length) := Lib.hid (by rw [hzl]; exact HMSL.out)
            have hscap : dn ≤ sc' ∧ sc' ≤ 9223372036854775807 := by
              have h1 := (HRD.out w19 HK519.out).2.1
              have h2 := h1.1
              rw [List.length_map, ← HMSL.out] at h2
              exact ⟨h2, h1.2.1⟩
            obtain ⟨hs1, hs2⟩ := hscap
            clear hzl hZc cC fC
            go_wp2_with fail
            go_loopw [113] (fun vk wr => ∃ k : Nat, k ≤ dn ∧ vk = .int .i64 k ∧ Hid (Own wr w1.heap.size 2 .i64 (some ⟨q, 0, none⟩) dn (zipK Zc ms k)) ∧ Hid (Kp [q] w19 wr)) (fun vk _ => dn - (intOf vk).toNat)
            case atStart => exact ⟨0, Nat.zero_le _, rfl, Lib.hid (by rw [zipK_zero]; exact HZ19.out), Lib.hid (Kp.refl _ _)⟩
            case round => as_aux_lemma =>
              obtain ⟨k, hk, rfl, HZK, HKK⟩ := hrel
              obtain ⟨wk, rfl⟩ : ∃ wk : World, wk = wr := ⟨_, rfl⟩
              have HBQ : Hid (bx ∉ [q] ∧ E ∉ [q] ∧ C ∉ [q]) := Lib.hid (by have := HBX.out; have := HQW.out; simp; omega)
              clear p2
              by_cases hlk : k < dn
              · have hkz : k < Zc.length := by rw [HZL.out]; exact hlk
                obtain ⟨gq, hgq, cq, fq, -, -⟩ := HZK.out.at' (i := k) (by rw [zipK_len HZM.out]; exact hkz)
                cases hgq
                rw [zipK_nth HZM.out hkz] at cq
                have HSET := Lib.hid (zipK_set HZM.out hkz)
                obtain ⟨bs, os, rfl, cs⟩ := (HRD.out wk (HK519.out.trans HKK.out (U := [C, E, q]) (fun _ h => .inl h) (fun b hb => .inl (by simp at hb; simp [hb])))).2.1.2.2 k (by rw [List.length_map, ← HMSL.out]; exact hlk)
                have hdi : (DL.set i ⟨some ⟨q, 0, none⟩, dn, dn, totZ dn K0⟩)[i]? = some ⟨some ⟨q, 0, none⟩, dn, dn, totZ dn K0⟩ := List.getElem?_set_self (by rw [HLV.out.dl]; exact hlt)
                have CE := Lib.hid ((HD19.out.keep HKK.out (fun b hb hb2 => by
                  simp [ob] at hb
                  subst hb
                  exact HBQ.out.2.1 hb2)).get0 hdi)
                have HRK := Lib.hid (HKK.out.get HRX19.out HBQ.out.1)
                obtain ⟨zk, hzk⟩ : ∃ z, z = nth Zc k := ⟨_, rfl⟩
                obtain ⟨sk, hsk⟩ : ∃ z, z = nth (ms.map (·.s)) k := ⟨_, rfl⟩
                rw [← hzk, ← hsk] at HSET
                rw [← hzk] at cq
                rw [← hsk] at cs
                have CQ := Lib.hid cq
                have CS := Lib.hid cs
                obtain ⟨zw, hzw⟩ : ∃ zw, zw = IntKind.i64.wrap (zk + sk) := ⟨_, rfl⟩
                have HZW : Hid (IntKind.i64.wrap (zk + sk) = zw ∧ wrap64 (zk + sk) = zw) := Lib.hid ⟨hzw.symm, by rw [hzw, IntKind.wrap_i64]; unfold wrap64; rfl⟩
                rw [← hzw] at HSET
                clear cq fq cs hdi hzk hsk hkz hzw
                go_upto_region 24 with (fail)
                refine wp_region_GS (by kernel_rfl) [] [.val (.int .i64 (i : Int)), .val (.pointer (some ⟨E, i, none⟩)), .val (.slice (some ⟨q, 0, none⟩) dn dn), .val (.int .i64 (k : Int)), .val (.pointer (some ⟨q, k, none⟩)), .val (.int .i64 zk), .val (.pointer (some ⟨bx, 2, none⟩)), .val (.slice (some ⟨bs, os, none⟩) dn sc'), .val (.int .i64 (k : Int)), .val (.pointer (some ⟨bs, os + k, none⟩)), .val (.int .i64 sk), .val (.int .i64 zw), .val (.pointer (some ⟨q, k, none⟩))] [[(17, none)], [(16, none), (116, some 0)], [(117, some 1)], [(25, none)], [(118, some 2), (119, some 3)], [(120, some 4)], [(24, none)], [(122, some 6)], [(25, none)], [(123, some 7), (124, some 8)], [(125, some 9)], [(121, some 5), (126, some 10)], [(118, some 2), (119, some 3)]] [] (fun _ _ => True) 13 rfl (by kernel_rfl) (by kernel_rfl) (by kernel_rfl) (by kernel_rfl) (by kernel_rfl) (by simp) (fun _ _ _ h _ => h) trivial ?_ ?_
                · refine (ObG.free rfl ?o0 (ObG.free rfl ?o1 (ObG.free rfl ?o2 (ObG.free rfl ?o3 (ObG.free rfl ?o4 (ObG.free rfl ?o5 (ObG.free rfl ?o6 (ObG.free rfl ?o7 (ObG.free rfl ?o8 (ObG.free rfl ?o9 (ObG.free rfl ?o10 (ObG.free rfl ?o11 (ObG.free rfl ?o12 trivial)))))))))))))
                  case o0 => intro aR wR mR hR hI; replace hR := hR.undrew; intro (h17 : aR.tmps[17]? = some (.int .i64 (i : Int))); exact exec_val (c := .int .i64 (i : Int)) (wanted_none rfl) (by go_simp) rfl
                  case o1 => intro aR wR mR hR hI; replace hR := hR.undrew; intro (h16 : aR.tmps[16]? = some (.pointer (some ⟨E, 0, none⟩))); intro v116 h116 e116; replace e116 : v116 = .int .i64 (i : Int) := e116; subst e116; exact exec_val (c := .pointer (some ⟨E, i, none⟩)) (wanted_none rfl) (by go_simp) rfl
                  case o2 => intro aR wR mR hR hI; replace hR := hR.undrew; intro v117 h117 e117; replace e117 : v117 = .pointer (some ⟨E, i, none⟩) := e117; subst e117; (have h1 := hR.cell CE.out (by simp)); exact exec_val (c := .slice (some ⟨q, 0, none⟩) dn dn) (wanted_none rfl) (by go_simp) rfl
                  case o3 => intro aR wR mR hR hI; replace hR := hR.undrew; intro (h25 : aR.tmps[25]? = some (.int .i64 (k : Int))); exact exec_val (c := .int .i64 (k : Int)) (wanted_none rfl) (by go_simp) rfl
                  case o4 => intro aR wR mR hR hI; replace hR := hR.undrew; intro v118 h118 e118; replace e118 : v118 = .slice (some ⟨q, 0, none⟩) dn dn := e118; subst e118; intro v119 h119 e119; replace e119 : v119 = .int .i64 (k : Int) := e119; subst e119; exact exec_val (c := .pointer (some ⟨q, k, none⟩)) (wanted_none rfl) (by go_simp) rfl
                  case o5 => intro aR wR mR hR hI; replace hR := hR.undrew; intro v120 h120 e120; replace e120 : v120 = .pointer (some ⟨q, k, none⟩) := e120; subst e120; (have h1 := hR.cell CQ.out (by simp)); exact exec_val (c := .int .i64 zk) (wanted_none rfl) (by go_simp) rfl
                  case o6 => intro aR wR mR hR hI; replace hR := hR.undrew; intro (h24 : aR.tmps[24]? = some (.pointer (some ⟨bx, 0, none⟩))); exact exec_val (c := .pointer (some ⟨bx, 2, none⟩)) (wanted_none rfl) (by go_simp) rfl
                  case o7 => intro aR wR mR hR hI; replace hR := hR.undrew; intro v122 h122 e122; replace e122 : v122 = .pointer (some ⟨bx, 2, none⟩) := e122; subst e122; (have h1 : wR.cell? ⟨bx, 2, none⟩ = some (.slice (some ⟨bs, os, none⟩) dn sc') := (by rw [cell_of_row wR bx 2 _ _ _ (hR.get HRK.out (by simp))]; rfl)); exact exec_val (c := .slice (some ⟨bs, os, none⟩) dn sc') (wanted_none rfl) (by go_simp) rfl
                  case o8 => intro aR wR mR hR hI; replace hR := hR.undrew; intro (h25 : aR.tmps[25]? = some (.int .i64 (k : Int))); exact exec_val (c := .int .i64 (k : Int)) (wanted_none rfl) (by go_simp) rfl
                  case o9 => intro aR wR mR hR hI; replace hR := hR.undrew; intro v123 h123 e123; replace e123 : v123 = .slice (some ⟨bs, os, none⟩) dn sc' := e123; subst e123; intro v124 h124 e124; replace e124 : v124 = .int .i64 (k : Int) := e124; subst e124; exact exec_val (c := .pointer (some ⟨bs, os + k, none⟩)) (wanted_none rfl) (by go_simp) rfl
                  case o10 => intro aR wR mR hR hI; replace hR := hR.undrew; intro v125 h125 e125; replace e125 : v125 = .pointer (some ⟨bs, os + k, none⟩) := e125; subst e125; (have h1 := hR.cell CS.out (by simp)); exact exec_val (c := .int .i64 sk) (wanted_none rfl) (by go_simp) rfl
                  case o11 => intro aR wR mR hR hI; replace hR := hR.undrew; intro v121 h121 e121; replace e121 : v121 = .int .i64 zk := e121; subst e121; intro v126 h126 e126; replace e126 : v126 = .int .i64 sk := e126; subst e126; (have hzw := HZW.out.1; have hzw2 := HZW.out.2); exact exec_val (c := .int .i64 zw) (wanted_none rfl) (by go_simp) rfl
                  case o12 => intro aR wR mR hR hI; replace hR := hR.undrew; intro v118 h118 e118; replace e118 : v118 = .slice (some ⟨q, 0, none⟩) dn dn := e118; subst e118; intro v119 h119 e119; replace e119 : v119 = .int .i64 (k : Int) := e119; subst e119; exact exec_val (c := .pointer (some ⟨q, k, none⟩)) (wanted_none rfl) (by go_simp) rfl
                · intro vs wR hR hI hV
                  obtain ⟨e0, e1, e2, e3, e4, e5, e6, e7, e8, e9, e10, e11, e12, -⟩ := hV
                  replace e0 : vs 0 = .int .i64 (i : Int) := e0
                  replace e1 : vs 1 = .pointer (some ⟨E, i, none⟩) := e1
                  replace e2 : vs 2 = .slice (some ⟨q, 0, none⟩) dn dn := e2
                  replace e3 : vs 3 = .int .i64 (k : Int) := e3
                  replace e4 : vs 4 = .pointer (some ⟨q, k, none⟩) := e4
                  replace e5 : vs 5 = .int .i64 zk := e5
                  replace e6 : vs 6 = .pointer (some ⟨bx, 2, none⟩) := e6
                  replace e7 : vs 7 = .slice (some ⟨bs, os, none⟩) dn sc' := e7
                  replace e8 : vs 8 = .int .i64 (k : Int) := e8
                  replace e9 : vs 9 = .pointer (some ⟨bs, os + k, none⟩) := e9
                  replace e10 : vs 10 = .int .i64 sk := e10
                  replace e11 : vs 11 = .int .i64 zw := e11
                  replace e12 : vs 12 = .pointer (some ⟨q, k, none⟩) := e12
                  simp only [putAll, List.take_succ_cons, List.take_zero, List.drop_succ_cons, List.drop_zero, e0, e1, e2, e3, e4, e5, e6, e7, e8, e9, e10, e11, e12, Nat.reduceAdd, Nat.zero_add]
                  clear e0 e1 e2 e3 e4 e5 e6 e7 e8 e9 e10 e11 e12
                  try simp only [List.setIfInBounds_toArray, List.set_cons_succ, List.set_cons_zero]
                  have hOK := HZK.out.keep0 hR
                  have cQ := hR.cell CQ.out (by simp)
                  obtain ⟨gq2, hgq2, -, fq, -, -⟩ := hOK.at' (i := k) (by rw [zipK_len HZM.out, HZL.out]; exact hlk)
                  cases hgq2
                  have HOK2 : Hid (Own (wR.setCell ⟨q, k, none⟩ (.int .i64 zw)) w1.heap.size 2 .i64 (some ⟨q, 0, none⟩) dn (zipK Zc ms (k + 1))) := Lib.hid (by
                    rw [← HSET.out]; exact hOK.set k _)
                  have HKK2 : Hid (Kp [q] w19 (wR.setCell ⟨q, k, none⟩ (.int .i64 zw))) := Lib.hid ((HKK.out.trans hR (U := [q]) (fun _ h => .inl h) (by simp)).setCell _ _ (.inl (by simp)))
                  clear hOK hR
                  go_wp2_with fail
                  go_roundw
                  case rel => exact ⟨k + 1, hlk, by go_num, HOK2, HKK2⟩
                  case measure => simp [intOf]; omega
              · obtain rfl : dn = k := by omega
                have HZN : Hid (Own wk w1.heap.size 2 .i64 (some ⟨q, 0, none⟩) dn (sumZ dn (PL.take (j + 1)))) := Lib.hid (by
                  have h1 := HZK.out
                  rw [zipK_full HZM.out HZL.out.symm, HZC.out] at h1
                  rw [HPJ.out, sumZ_snoc]; exact h1)
                have HCN := Lib.hid (HC19.out.keep HKK.out (fun b hb hb2 => by
                  simp [ob] at hb
                  subst hb
                  exact HBQ.out.2.2 hb2))
                have HKN : Hid (Kp [C, q] wt wk) := Lib.hid (HKW.out.trans HKK.out (U := [C, q]) (fun _ h => .inl h) (fun b hb => .inl (by simp at hb; simp [hb])))
                go_wp2_with fail
                go_roundw
                case rel => exact ⟨j + 1, hltj, by go_num, HCN, HZN, HKN⟩
                case measure => simp [intOf]; omega
        · obtain rfl : xn = j := by omega
          have hall : PL.take xn = PL := List.take_of_length_le (by rw [HXN.out]; exact Nat.le_refl _)
          have HNEW : Hid (LvI w1 C E dn (totC K0) (totZ dn K0) (i + 1) (DL.set i ⟨some ⟨q, 0, none⟩, dn, dn, totZ dn K0⟩) wj) := Lib.hid (by
            have hQ := HQW.out
            have hk1 : Kp [] w1 wj := (HK5.out.trans HK5J.out (U := []) (by simp) (fun b hb => .inr (by
              have := HK5.out.size
              simp at hb; omega)))
            refine ⟨hk1, ?_, HDt.out.keep HK.out (fun b hb hb2 => by simp [ob] at hb; simp at hb2; omega), by rw [List.length_set]; exact HLV.out.dl, fun j hj => ?_⟩
            · have h1 := HC.out
              rw [hall, HTOT.out.1, HCLE.out] at h1
              obtain rfl | rfl : i = 0 ∨ i = 1 := by omega
              · exact h1
              · exact h1
            · by_cases hji : j = i
              · subst hji
                refine ⟨q, List.getElem?_set_self (by rw [HLV.out.dl]; exact hlt), ?_⟩
                have h1 := HZ.out
                rw [hall, HTOT.out.2] at h1
                exact h1
              · obtain ⟨q', z1, z2, z3⟩ := HOLD.out j (by omega)
                refine ⟨q', by rw [List.getElem?_set_ne (fun e => hji e.symm)]; exact z1, z2.keep HK.out (fun b hb hb2 => ?_)⟩
                have h3 := z3 b hb
                simp at hb2
                rcases hb2 with rfl | rfl
                · rcases HCt.out with ⟨h, -⟩ | ⟨g, cur, g1, g2, g4, -⟩
                  · omega
                  · cases g1
                    exact ownI_ne z2 g4 (by decide) hb
                · omega)
          have HSZN : Hid (w2.heap.size ≤ wj.heap.size) := Lib.hid (by
            have h1 := HSZ.out
            have h2 := HB4.out
            have h3 := HK5J.out.size
            omega)
          go_wp2_with fail
          go_roundw
          case rel => exact ⟨i + 1, _, by omega, by go_num, HNEW, HSZN⟩
          case measure => simp [intOf]; omega
    · obtain rfl : i = 2 := by omega
      obtain ⟨q0, d0, z0⟩ := HLV.out.z 0 (by omega)
      obtain ⟨q1, d1, z1⟩ := HLV.out.z 1 (by omega)
      have e0 := HLV.out.d.get0 d0
      have e1 := HLV.out.d.get0 d1
      dsimp only at e0 e1
      have E0 := Lib.hid e0
      have E1 := Lib.hid e1
      have HZ0 := Lib.hid z0
      have HZ1 := Lib.hid z1
      have HCF : Hid (Own wo w1.heap.size 74 .i64 (some ⟨C, 0, none⟩) 2 [totC K0, totC K0]) := Lib.hid HLV.out.c
      have HZLEN : Hid ((totZ dn K0).length ≤ dn) := Lib.hid z0.rd.1
      clear d0 d1 z0 z1 e1
      go_wp2_with fail
      go_loopw [135] (fun vk wr => ∃ k : Nat, k ≤ dn ∧ vk = .int .i64 k ∧ Hid (Kp [] wo wr)) (fun vk _ => dn - (intOf vk).toNat)
      case atStart => exact ⟨0, Nat.zero_le _, rfl, Lib.hid (Kp.refl _ _)⟩
      case round =>
        obtain ⟨k, hk, rfl, HKK⟩ := hrel
        obtain ⟨wk, rfl⟩ : ∃ wk : World, wk = wr := ⟨_, rfl⟩
        by_cases hlk : k < dn
        · have f0 := HKK.out.cell E0.out (by simp)
          have f1 := HKK.out.cell E1.out (by simp)
          have hcell : ∀ q, Own wo w1.heap.size 2 .i64 (some ⟨q, 0, none⟩) dn (totZ dn K0) → (totZ dn K0).length = dn → wk.cell? ⟨q, k, none⟩ = some (.int .i64 (nth (totZ dn K0) k)) := fun q hq hl => by
            obtain ⟨g, h1, h2, -⟩ := (hq.keep0 HKK.out).at' (i := k) (by rw [hl]; exact hlk)
            cases h1; exact h2
          have hl : (totZ dn K0).length = dn := HTL.out
          have g0 := hcell q0 HZ0.out hl
          have g1 := hcell q1 HZ1.out hl
          obtain ⟨zk, hzk⟩ : ∃ zk, zk = nth (totZ dn K0) k := ⟨_, rfl⟩
          rw [← hzk] at g0 g1
          have hbb : (zk != zk) = false := by simp
          clear hzk hcell hl e0
          go_wp2_with go_quiet (fail)
          go_roundw
          case rel => exact ⟨k + 1, hlk, by go_num, Lib.hid (HKK.out.tr (kdNs _ _))⟩
          case measure => simp [intOf]; omega
        · obtain ⟨gC, hgC, c0, -, -, -⟩ := (HCF.out.keep0 HKK.out).at' (i := 0) (by simp)
          obtain ⟨gC2, hgC2, c1, -, -, -⟩ := (HCF.out.keep0 HKK.out).at' (i := 1) (by simp)
          cases hgC
          cases hgC2
          obtain ⟨ct, hct⟩ : ∃ ct, ct = totC K0 := ⟨_, rfl⟩
          replace c0 : wk.cell? ⟨C, 0, none⟩ = some (.int .i64 ct) := by rw [hct]; exact c0
          replace c1 : wk.cell? ⟨C, 1, none⟩ = some (.int .i64 ct) := by rw [hct]; exact c1
          have hbb : (ct == ct) = true := by simp
          have HKF : Hid (Kp [] w1 wk) := Lib.hid (HLV.out.kp.tr HKK.out)
          clear hct e0
          go_wp2_with fail
          refine (known20_any wk).mono ?_
          rintro e w14 ⟨rfl, kp14⟩
          have HF := Lib.hid (HKF.out.tr kp14)
          clear kp14
          go_wp2_with fail
          go_ret
          exact ⟨rfl, HF.out⟩
end Go.Proofs.Ythmaobmgogmaoaa
