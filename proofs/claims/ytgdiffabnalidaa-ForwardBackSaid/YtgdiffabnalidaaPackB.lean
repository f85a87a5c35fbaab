/-
  What pack.Pack and pack.Unpack tell.
-/
import Derived.Test.YtgdiffabnalidaaPack
import Derived.Test.YtgdiffabnalidaaRegionG
namespace Go.Proofs.Ytgdiffabnalidaa
open Go.RowKit
set_option linter.unusedSimpArgs false
set_option linter.unusedVariables false

theorem infoU64 : (Try.prog.info? 31).map (fun i => (i.zero, i.size, i.bytes)) = some (some (.int .u64 0), 1, 8) := by kernel_rfl
theorem bits_or_u8_nat (a b : Nat) (ha : a < 256) (hb : b < 256) : bits .or .u8 (a : Int) (b : Int) = ((a ||| b : Nat) : Int) := by
  have hx : a ||| b < 2 ^ 8 := Nat.or_lt_two_pow (by omega) (by omega)
  have h1 : (BitVec.ofInt 8 (a : Int)).toNat = a := by
    rw [BitVec.ofInt_natCast, BitVec.toNat_ofNat]; exact Nat.mod_eq_of_lt (by omega)
  have h2 : (BitVec.ofInt 8 (b : Int)).toNat = b := by
    rw [BitVec.ofInt_natCast, BitVec.toNat_ofNat]; exact Nat.mod_eq_of_lt (by omega)
  show IntKind.u8.wrap ((BitVec.ofInt 8 (a : Int) ||| BitVec.ofInt 8 (b : Int)).toNat : Int) = _
  rw [BitVec.toNat_or, h1, h2, IntKind.wrap_u8]
  omega
def U64s (l : List Int) : Prop := ∀ z ∈ l, 0 ≤ z ∧ z ≤ 18446744073709551615

theorem fit_snoc {wd : Nat} {l : List Int} {i : Nat} (h : Fit wd (l.take i)) (hi : i < l.length) (h0 : 0 ≤ nth l i) (hx : (nth l i).toNat < 2 ^ wd) : Fit wd (l.take (i + 1)) := by
  intro z hz
  rw [take_nth l i hi] at hz
  rcases List.mem_append.1 hz with hz | hz
  · exact h z hz
  · simp at hz; subst hz; exact ⟨h0, hx⟩

/-- What Pack comes to. -/
def PackPost (w : World) (wd : Nat) (l : List Int) (n : Nat) (e : Ending) (w' : World) : Prop :=
  Kp [] w w' ∧ ((Fit wd l ∧ ∃ ad cap, e = .returned (.tuple #[.slice ad (sizeN n wd) cap, .int .i64 0]) ∧ Own w' w.heap.size 5 .u8 ad cap (packs wd l)) ∨ (¬ Fit wd l ∧ e = .returned (.tuple #[.slice none 0 0, .int .i64 2])))

theorem pack_bad (a0 : Option Addr) (cap0 n : Nat) (wd : Int) (w : World) (h : ¬ fitsP n wd) :
    Calls Try.prog 12 #[.slice a0 n cap0, .int .i64 wd] w fun e w' => e = .returned (.tuple #[.slice none 0 0, .int .i64 2]) ∧ w = w' := by
  go_enter Try.func12, Try.ntmps12
  go_wp2_with (go_at_call 35; refine (fits_no (n : Int) wd _ h).mono ?_; rintro e w' ⟨rfl, rfl⟩)
  go_ret2
  exact ⟨rfl, rfl⟩

set_option maxRecDepth 100000 in
set_option maxHeartbeats 2000000 in
theorem pack_any (a0 : Option Addr) (cap0 n wd : Nat) (l : List Int) (hn : n = l.length) (w : World) (r0 : Rd w .u64 a0 cap0 l) (hu : U64s l) (h : fitsP n wd) (hnb : n ≤ 1000000) :
    Calls Try.prog 12 #[.slice a0 n cap0, .int .i64 (wd : Int)] w (PackPost w wd l n) := by
  have H := Lib.hid h
  obtain ⟨h1, h2, h3, h4⟩ := h
  have hmb := mul_bound n wd (by omega) (by omega)
  obtain ⟨sz, hsz⟩ : ∃ sz, sz = sizeN n wd := ⟨_, rfl⟩
  have hszb : sz ≤ 8000001 := by
    have := sizeN_lt n wd
    have : n * wd ≤ 1000000 * 64 := Nat.mul_le_mul hnb (by omega)
    omega
  have HSZ := Lib.hid hsz
  have HN := Lib.hid hn
  have HR := Lib.hid r0
  have HU := Lib.hid hu
  have hmk : ∀ wx : World, _ := fun wx => make_ints (P := Try.prog) wx 24 5 .u8 .i64 .i64 sz 1 Try.underlying24 infoU8 (by omega) (by omega)
  have hsc : Calls Try.prog 15 #[.int .i64 (n : Int), .int .i64 (wd : Int)] w fun e w' => e = .returned (.int .i64 (sz : Int)) ∧ w = w' := by rw [hsz]; exact size_yes n wd w H.out
  have HSC := Lib.hid hsc
  have hwd : wd ≤ 64 := by omega
  have HWD := Lib.hid hwd
  clear hn r0 hu h1 h2 hsz hsc hmb
  go_enter Try.func12, Try.ntmps12
  go_wp2_with (first
    | (go_at_call 35; refine (fits_yes (n : Int) (wd : Int) _ H.out).mono ?_; rintro e w' ⟨rfl, rfl⟩)
    | (go_at_call 15; refine HSC.out.mono ?_; rintro e w' ⟨rfl, rfl⟩))
  have ho0 : Own (w.alloc (.cells (ints .u8 (List.replicate sz 0)) 5)) w.heap.size 5 .u8 (some ⟨w.heap.size, 0, none⟩) sz (le 0 sz) := by
    have := Own.row (k := .u8) (zs := List.replicate sz 0) (base := w.heap.size) (e := 5) (Nat.le_refl _) (heap_alloc_at (w := w) (o := .cells (ints .u8 (List.replicate sz 0)) 5) rfl) (by simp; omega)
    rw [List.length_replicate] at this
    have e0 : le 0 sz = List.replicate sz 0 := by
      clear this hszb hmk HSZ HSC
      induction sz with
      | zero => rfl
      | succ s ih => simp [le, List.replicate_succ]; exact ih
    rw [e0]; exact this
  have kp0 : Kp [] w (w.alloc (.cells (ints .u8 (List.replicate sz 0)) 5)) := (Kp.refl [] w).alloc _
  generalize w.alloc (.cells (ints .u8 (List.replicate sz 0)) 5) = w1 at *
  obtain ⟨g, hg⟩ : ∃ g, g = w.heap.size := ⟨_, rfl⟩
  rw [← hg] at ho0 ⊢
  have HG := Lib.hid hg
  have HO0 := Lib.hid ho0
  have KP0 := Lib.hid kp0
  clear hmk hg ho0 kp0
  go_loopw [23] (fun vi wr => ∃ i : Nat, i ≤ n ∧ vi = .int .i64 i ∧ Hid (Fit wd (l.take i)) ∧ Own wr g 5 .u8 (some ⟨g, 0, none⟩) sz (le (vn wd (l.take i)) sz) ∧ Kp [] w wr) (fun vi _ => n - (intOf vi).toNat)
  case atStart => exact ⟨0, Nat.zero_le _, rfl, Lib.hid (by intro z hz; simp at hz), by simpa [vn] using HO0.out, KP0.out⟩
  case round =>
    obtain ⟨i, hi, rfl, hF, ho, kp⟩ := hrel
    obtain ⟨wo, rfl⟩ : ∃ wo : World, wo = wr := ⟨_, rfl⟩
    have HO := Lib.hid ho
    clear HO0 ho
    by_cases hlt : i < n
    · have hil : i < l.length := by rw [← HN.out]; exact hlt
      obtain ⟨b, off, rfl, hc⟩ := (HR.out.keep0 kp).2.2 i hil
      have hxb := HU.out _ (nth_mem hil)
      obtain ⟨x, hx⟩ := Int.eq_ofNat_of_zero_le hxb.1
      rw [hx] at hc hxb
      have hx64 : x < 18446744073709551616 := by omega
      have HL := Lib.hid (len64_n x wo hx64)
      have hfit := bitLen_fit x wd hx64 HWD.out
      have HX := Lib.hid hx
      by_cases hbit : Lib.bitLen x ≤ wd
      · have hf1 : Fit wd (l.take (i + 1)) := fit_snoc hF.out hil (by rw [hx]; omega) (by rw [hx, Int.toNat_natCast]; exact hfit.1 hbit)
        have HF1 := Lib.hid hf1
        have hxw : Hid (x < 2 ^ wd) := Lib.hid (hfit.1 hbit)
        have hnb2 : ¬ wd < Lib.bitLen x := by omega
        generalize Lib.bitLen x = bl at *
        clear hx hxb hx64 hfit hf1
        go_wp2_with (go_at_call 36; refine HL.out.mono ?_; rintro e w' ⟨rfl, rfl⟩)
        clear hc
        obtain ⟨v0, hv0⟩ : ∃ v0, v0 = vn wd (l.take i) := ⟨_, rfl⟩
        have HV0 := Lib.hid hv0
        have hv0l : v0 < 2 ^ (i * wd) := by
          have := vn_lt wd _ hF.out
          rw [List.length_take, Nat.min_eq_left (by omega), ← hv0] at this; exact this
        have HV0L := Lib.hid hv0l
        obtain ⟨iw, hiw⟩ : ∃ iw, iw = i * wd := ⟨_, rfl⟩
        rw [← hiw] at HV0L
        have HIW := Lib.hid hiw
        have hiwb : iw + wd ≤ n * wd := by
          have : (i + 1) * wd ≤ n * wd := Nat.mul_le_mul_right _ hlt
          rw [Nat.succ_mul] at this; rw [hiw]; exact this
        have hszn : n * wd ≤ 8 * sz := by rw [HSZ.out]; exact sizeN_ge n wd
        have hiws : iw + wd ≤ 8 * sz := by omega
        have ew : IntKind.i64.wrap ((i : Int) * (wd : Int)) = (iw : Int) := by rw [IntWalk.i64_in _ (by rw [← Int.natCast_mul, ← hiw]; omega), hiw, Int.natCast_mul]
        clear hv0 hv0l hiw hiwb hszn hF
        go_loopw [33] (fun vk wr => ∃ k : Nat, k ≤ wd ∧ vk = .int .i64 k ∧ Own wr g 5 .u8 (some ⟨g, 0, none⟩) sz (le (v0 + 2 ^ iw * (x % 2 ^ k)) sz) ∧ Kp [] w wr) (fun vk _ => wd - (intOf vk).toNat)
        case atStart => exact ⟨0, Nat.zero_le _, rfl, by rw [HV0.out]; simpa [Nat.mod_one] using HO.out, kp⟩
        case round =>
          obtain ⟨k, hk, rfl, ho2, kp2⟩ := hrel
          have HO2 := Lib.hid ho2
          clear ho2
          by_cases hlk : k < wd
          · obtain ⟨pp, hpp⟩ : ∃ pp, pp = v0 + 2 ^ iw * (x % 2 ^ k) := ⟨_, rfl⟩
            rw [← hpp] at HO2
            obtain ⟨t, ht⟩ : ∃ t, t = iw + k := ⟨_, rfl⟩
            have hppl : pp < 2 ^ t := by
              have h1 : x % 2 ^ k < 2 ^ k := Nat.mod_lt _ (Nat.pow_pos (by omega))
              have h2 := HV0L.out
              have h3 : 2 ^ iw * (x % 2 ^ k + 1) ≤ 2 ^ iw * 2 ^ k := Nat.mul_le_mul_left _ h1
              rw [Nat.mul_add, Nat.mul_one] at h3
              rw [hpp, ht, Nat.pow_add]; omega
            obtain ⟨q, hq⟩ : ∃ q, q = t / 8 := ⟨_, rfl⟩
            obtain ⟨r, hr⟩ : ∃ r, r = t % 8 := ⟨_, rfl⟩
            have hqs : q < sz := by omega
            obtain ⟨c, hcc⟩ : ∃ c, c = x / 2 ^ k := ⟨_, rfl⟩
            obtain ⟨bb, hbb⟩ : ∃ bb, bb = c % 2 := ⟨_, rfl⟩
            have hb1 : bb ≤ 1 := by omega
            obtain ⟨d, hd⟩ : ∃ d, d = pp / 256 ^ q % 256 := ⟨_, rfl⟩
            obtain ⟨s, hs⟩ : ∃ s, s = bb * 2 ^ r := ⟨_, rfl⟩
            have hlb := le_bit sz pp t bb hppl hb1 (by rw [← hq]; exact hqs)
            rw [← hq, ← hr, ← hd, ← hs] at hlb
            obtain ⟨hd2, hlb⟩ := hlb
            have hr7 : 2 ^ r ≤ 128 := by
              have : 2 ^ r ≤ 2 ^ 7 := Nat.pow_le_pow_right (by omega) (by omega)
              exact this
            have hs2 : s ≤ 2 ^ r := by rw [hs]; have := Nat.mul_le_mul_right (2 ^ r) hb1; omega
            have hor : d ||| s = d + s := by
              have h3 := Nat.two_pow_add_eq_or_of_lt (i := r) (b := d) hd2 bb
              rw [hs, Nat.mul_comm, Nat.or_comm, ← h3, Nat.add_comm]
            have hnext : v0 + 2 ^ iw * (x % 2 ^ (k + 1)) = pp + bb * 2 ^ t := by
              rw [low_step, Nat.mul_add, ← Nat.add_assoc, ← hpp, ← hcc, ← hbb, ht, Nat.pow_add, ← Nat.mul_assoc, Nat.mul_comm bb]
            have e3 : (t : Int) / 8 = (q : Int) := by omega
            have e4 : (t : Int) % 8 = (r : Int) := by omega
            have e2 : IntKind.i64.wrap ((iw : Int) + (k : Int)) = (t : Int) := by rw [IntWalk.i64_in _ (by omega)]; omega
            have e6 : (x : Int) / 2 ^ k = (c : Int) := by rw [hcc, Int.natCast_ediv, Int.natCast_pow]; rfl
            have e7 : bits BinOp.and IntKind.u64 (c : Int) 1 = (bb : Int) := by
              have hxl := hxw.out
              have h64 : 2 ^ wd ≤ 2 ^ 64 := Nat.pow_le_pow_right (by omega) HWD.out
              have hcx : c ≤ x := by rw [hcc]; exact Nat.div_le_self _ _
              have := bits_and_u64_nat c 1 (by omega) (by omega)
              rw [Nat.and_one_is_mod, ← hbb] at this; exact this
            have e8 : IntKind.u8.wrap ((bb : Int) * 2 ^ r) = (s : Int) := by
              have : (bb : Int) * 2 ^ r = (s : Int) := by rw [hs, Int.natCast_mul, Int.natCast_pow]; rfl
              rw [this]; exact IntWalk.u8_in _ (by omega)
            obtain ⟨u, hu⟩ : ∃ u, u = d + s := ⟨_, rfl⟩
            have e9 : bits BinOp.or IntKind.u8 (d : Int) (s : Int) = (u : Int) := by rw [bits_or_u8_nat d s (by omega) (by omega), hor, hu]
            have hqb : (q : Int) ≤ 8000001 := by omega
            have hrb : (r : Int) ≤ 7 := by omega
            have htb : (t : Int) ≤ 64000016 := by omega
            have hbb1 : (bb : Int) ≤ 1 := by omega
            obtain ⟨g', eg, cq, fq, -, -⟩ := HO2.out.at' (i := q) (by rw [le_length]; exact hqs)
            cases eg
            rw [nth_le sz pp q hqs, ← hd] at cq
            have CQ := Lib.hid cq
            have FQ := Lib.hid fq
            rw [← hu] at hlb
            have HLB := Lib.hid hlb
            have HNX := Lib.hid hnext
            clear hpp ht hppl hq hr hcc hbb hd hs hlb hd2 hr7 hs2 hor hnext hu cq fq
            go_wp2_with fail
            refine wp_region_GS (by kernel_rfl) [] [.val (.slice (some ⟨g, 0, none⟩) sz sz), .val (.int .i64 (t : Int)), .val (.int .i64 (q : Int)), .val (.pointer (some ⟨g, q, none⟩)), .val (.int .u8 (d : Int)), .val (.int .u64 (x : Int)), .val (.int .i64 (k : Int)), .val (.int .u64 (c : Int)), .val (.int .u64 (bb : Int)), .val (.int .u8 (bb : Int)), .val (.int .i64 (t : Int)), .val (.int .i64 (r : Int)), .val (.int .u8 (s : Int)), .val (.int .u8 (u : Int)), .val (.pointer (some ⟨g, q, none⟩))] [[(6, none)], [(10, none)], [(42, some 1)], [(41, some 0), (43, some 2)], [(44, some 3)], [(8, none)], [(9, none)], [(46, some 5), (47, some 6)], [(48, some 7)], [(49, some 8)], [(10, none)], [(51, some 10)], [(50, some 9), (52, some 11)], [(45, some 4), (53, some 12)], [(41, some 0), (43, some 2)]] [] (fun _ _ => True) 15 rfl (by kernel_rfl) (by kernel_rfl) (by kernel_rfl) (by kernel_rfl) (by kernel_rfl) (by simp) (fun _ _ _ h _ => h) trivial ?_ ?_
            · refine (ObG.free rfl ?o0 (ObG.free rfl ?o1 (ObG.free rfl ?o2 (ObG.free rfl ?o3 (ObG.free rfl ?o4 (ObG.free rfl ?o5 (ObG.free rfl ?o6 (ObG.free rfl ?o7 (ObG.free rfl ?o8 (ObG.free rfl ?o9 (ObG.free rfl ?o10 (ObG.free rfl ?o11 (ObG.free rfl ?o12 (ObG.free rfl ?o13 (ObG.free rfl ?o14 trivial)))))))))))))))
              case o0 => intro aR wR mR hR hI; replace hR := hR.undrew; intro (h6 : aR.tmps[6]? = some (.slice (some ⟨g, 0, none⟩) sz sz)); exact exec_val (c := .slice (some ⟨g, 0, none⟩) sz sz) (wanted_none rfl) (by go_simp) rfl
              case o1 => intro aR wR mR hR hI; replace hR := hR.undrew; intro (h10 : aR.tmps[10]? = some (.int .i64 (t : Int))); exact exec_val (c := .int .i64 (t : Int)) (wanted_none rfl) (by go_simp) rfl
              case o2 => intro aR wR mR hR hI; replace hR := hR.undrew; intro v42 h42 e42; replace e42 : v42 = .int .i64 (t : Int) := e42; subst e42; (have ex := IntWalk.i64_in (q : Int) (by omega)); exact exec_val (c := .int .i64 (q : Int)) (wanted_none rfl) (by go_simp) rfl
              case o3 => intro aR wR mR hR hI; replace hR := hR.undrew; intro v41 h41 e41; replace e41 : v41 = .slice (some ⟨g, 0, none⟩) sz sz := e41; subst e41; intro v43 h43 e43; replace e43 : v43 = .int .i64 (q : Int) := e43; subst e43; (skip); exact exec_val (c := .pointer (some ⟨g, q, none⟩)) (wanted_none rfl) (by go_simp) rfl
              case o4 => intro aR wR mR hR hI; replace hR := hR.undrew; intro v44 h44 e44; replace e44 : v44 = .pointer (some ⟨g, q, none⟩) := e44; subst e44; (have hcell := hR.cell CQ.out (by simp)); exact exec_val (c := .int .u8 (d : Int)) (wanted_none rfl) (by go_simp) rfl
              case o5 => intro aR wR mR hR hI; replace hR := hR.undrew; intro (h8 : aR.tmps[8]? = some (.int .u64 (x : Int))); exact exec_val (c := .int .u64 (x : Int)) (wanted_none rfl) (by go_simp) rfl
              case o6 => intro aR wR mR hR hI; replace hR := hR.undrew; intro (h9 : aR.tmps[9]? = some (.int .i64 (k : Int))); exact exec_val (c := .int .i64 (k : Int)) (wanted_none rfl) (by go_simp) rfl
              case o7 => intro aR wR mR hR hI; replace hR := hR.undrew; intro v46 h46 e46; replace e46 : v46 = .int .u64 (x : Int) := e46; subst e46; intro v47 h47 e47; replace e47 : v47 = .int .i64 (k : Int) := e47; subst e47; (skip); exact exec_val (c := .int .u64 (c : Int)) (wanted_none rfl) (by go_simp) rfl
              case o8 => intro aR wR mR hR hI; replace hR := hR.undrew; intro v48 h48 e48; replace e48 : v48 = .int .u64 (c : Int) := e48; subst e48; (skip); exact exec_val (c := .int .u64 (bb : Int)) (wanted_none rfl) (by go_simp) rfl
              case o9 => intro aR wR mR hR hI; replace hR := hR.undrew; intro v49 h49 e49; replace e49 : v49 = .int .u64 (bb : Int) := e49; subst e49; (have ex := IntWalk.u8_in (bb : Int) (by omega)); exact exec_val (c := .int .u8 (bb : Int)) (wanted_none rfl) (by go_simp) rfl
              case o10 => intro aR wR mR hR hI; replace hR := hR.undrew; intro (h10 : aR.tmps[10]? = some (.int .i64 (t : Int))); exact exec_val (c := .int .i64 (t : Int)) (wanted_none rfl) (by go_simp) rfl
              case o11 => intro aR wR mR hR hI; replace hR := hR.undrew; intro v51 h51 e51; replace e51 : v51 = .int .i64 (t : Int) := e51; subst e51; (have ex : (t : Int).tmod 8 = (r : Int) := (by rw [IntWalk.rem_in _ _ (by omega)]; omega)); exact exec_val (c := .int .i64 (r : Int)) (wanted_none rfl) (by go_simp) rfl
              case o12 => intro aR wR mR hR hI; replace hR := hR.undrew; intro v50 h50 e50; replace e50 : v50 = .int .u8 (bb : Int) := e50; subst e50; intro v52 h52 e52; replace e52 : v52 = .int .i64 (r : Int) := e52; subst e52; (skip); exact exec_val (c := .int .u8 (s : Int)) (wanted_none rfl) (by go_simp) rfl
              case o13 => intro aR wR mR hR hI; replace hR := hR.undrew; intro v45 h45 e45; replace e45 : v45 = .int .u8 (d : Int) := e45; subst e45; intro v53 h53 e53; replace e53 : v53 = .int .u8 (s : Int) := e53; subst e53; (skip); exact exec_val (c := .int .u8 (u : Int)) (wanted_none rfl) (by go_simp) rfl
              case o14 => intro aR wR mR hR hI; replace hR := hR.undrew; intro v41 h41 e41; replace e41 : v41 = .slice (some ⟨g, 0, none⟩) sz sz := e41; subst e41; intro v43 h43 e43; replace e43 : v43 = .int .i64 (q : Int) := e43; subst e43; (skip); exact exec_val (c := .pointer (some ⟨g, q, none⟩)) (wanted_none rfl) (by go_simp) rfl
            · intro vs wR hR hI hV
              obtain ⟨e0, e1, e2, e3, e4, e5, e6, e7, e8, e9, e10, e11, e12, e13, e14, -⟩ := hV
              replace e0 : vs 0 = .slice (some ⟨g, 0, none⟩) sz sz := e0
              replace e1 : vs 1 = .int .i64 (t : Int) := e1
              replace e2 : vs 2 = .int .i64 (q : Int) := e2
              replace e3 : vs 3 = .pointer (some ⟨g, q, none⟩) := e3
              replace e4 : vs 4 = .int .u8 (d : Int) := e4
              replace e5 : vs 5 = .int .u64 (x : Int) := e5
              replace e6 : vs 6 = .int .i64 (k : Int) := e6
              replace e7 : vs 7 = .int .u64 (c : Int) := e7
              replace e8 : vs 8 = .int .u64 (bb : Int) := e8
              replace e9 : vs 9 = .int .u8 (bb : Int) := e9
              replace e10 : vs 10 = .int .i64 (t : Int) := e10
              replace e11 : vs 11 = .int .i64 (r : Int) := e11
              replace e12 : vs 12 = .int .u8 (s : Int) := e12
              replace e13 : vs 13 = .int .u8 (u : Int) := e13
              replace e14 : vs 14 = .pointer (some ⟨g, q, none⟩) := e14
              simp only [putAll, List.take_succ_cons, List.take_zero, List.drop_succ_cons, List.drop_zero, e0, e1, e2, e3, e4, e5, e6, e7, e8, e9, e10, e11, e12, e13, e14, Nat.reduceAdd, Nat.zero_add]
              clear e0 e1 e2 e3 e4 e5 e6 e7 e8 e9 e10 e11 e12 e13 e14
              try simp only [List.setIfInBounds_toArray, List.set_cons_succ, List.set_cons_zero]
              have hcell := hR.cell CQ.out (by simp)
              obtain ⟨g', eg, cq, fq, -, -⟩ := (HO2.out.keep0 hR).at' (i := q) (by rw [le_length]; exact hqs)
              cases eg
              have HOR := Lib.hid (HO2.out.keep0 hR)
              go_wp2_with fail
              go_roundw
              case rel =>
                refine ⟨k + 1, hlk, by go_num, ?_, (kp2.tr hR).setCell _ _ (.inr (by rw [HG.out]; exact Nat.le_refl _))⟩
                rw [HNX.out, HLB.out]
                exact HOR.out.set q _
              case measure => simp [intOf]; omega
          · obtain rfl : k = wd := by omega
            have hend : v0 + 2 ^ iw * (x % 2 ^ k) = vn k (l.take (i + 1)) := by
              rw [vn_take k l i hil, HX.out, Int.toNat_natCast, Nat.mod_eq_of_lt hxw.out, ← HV0.out, ← HIW.out]
            rw [hend] at HO2
            go_wp2_with fail
            go_roundw
            case rel => exact ⟨i + 1, hlt, by go_num, HF1, HO2.out, kp2⟩
            case measure => simp [intOf]; omega
      · have hnb2 : wd < Lib.bitLen x := by omega
        have hnf : ¬ Fit wd l := fun hf => by
          have := (hf _ (nth_mem hil)).2
          rw [hx, Int.toNat_natCast] at this
          exact hbit (hfit.2 this)
        have HNF := Lib.hid hnf
        generalize Lib.bitLen x = bl at *
        clear hx hxb hx64 hfit hbit hnf
        go_wp2_with (go_at_call 36; refine HL.out.mono ?_; rintro e w' ⟨rfl, rfl⟩)
        go_ret2
        exact ⟨kp, .inr ⟨HNF.out, rfl⟩⟩
    · obtain rfl : i = n := by omega
      have hall : l.take i = l := List.take_of_length_le (by rw [← HN.out]; exact Nat.le_refl _)
      rw [hall] at hF HO
      go_wp2_with fail
      go_ret2
      refine ⟨kp, .inl ⟨hF.out, some ⟨g, 0, none⟩, sz, by rw [← HSZ.out]; rfl, ?_⟩⟩
      have := HO.out
      rw [HSZ.out] at this ⊢
      unfold packs
      rw [← HN.out]
      rw [← HG.out]
      exact this

/-- What bytes are unpacked as. -/
def unpE (bs : List Int) (n wd : Int) : Int :=
  if ¬ fitsP n wd then 2 else if bs.length < sizeN n.toNat wd.toNat then 4 else if sizeN n.toNat wd.toNat < bs.length ∨ 2 ^ (n.toNat * wd.toNat) ≤ leN bs then 5 else 0
def unpL (bs : List Int) (n wd : Int) : List Int := if unpE bs n wd = 0 then unp (leN bs) wd.toNat n.toNat else []
def UnpPost (w : World) (bs : List Int) (n wd : Int) (e : Ending) (w' : World) : Prop :=
  ∃ ad cap, e = .returned (.tuple #[.slice ad (unpL bs n wd).length cap, .int .i64 (unpE bs n wd)]) ∧ Own w' w.heap.size 31 .u64 ad cap (unpL bs n wd) ∧ Kp [] w w'
theorem unpost_bad {w : World} {bs : List Int} {n wd c : Int} (h : unpE bs n wd = c) (hc : c ≠ 0) : UnpPost w bs n wd (.returned (.tuple #[.slice none 0 0, .int .i64 c])) w := by
  have hl : unpL bs n wd = [] := by unfold unpL; rw [if_neg (by rw [h]; exact hc)]
  exact ⟨none, 0, by rw [h, hl]; rfl, by rw [hl]; exact Own.nil _ _ _ _, Kp.refl _ _⟩

theorem take_set' (s : List Int) (j : Nat) (v : Int) (h : j < s.length) : (s.set j v).take (j + 1) = s.take j ++ [v] := by
  rw [List.take_succ_eq_append_getElem (by simpa using h)]
  simp [List.take_set_of_le]
/-- The bits behind the numbers. -/
theorem top_bits (bs : List Int) (hb : Bytes8 bs) (m q r : Nat) (hq : q = m / 8) (hr : r = m % 8) (hl : bs.length = q + 1) : leN bs / 2 ^ m = (nth bs q).toNat / 2 ^ r := by
  have h1 := leN_digit bs hb q (by omega)
  have h2 : leN bs / 256 ^ q < 256 := by
    have := leN_lt bs hb
    rw [hl, Nat.pow_succ, Nat.mul_comm] at this
    rw [Nat.div_lt_iff_lt_mul (Nat.pow_pos (by omega))]; exact this
  rw [Nat.mod_eq_of_lt h2] at h1
  have h3 : 2 ^ m = 256 ^ q * 2 ^ r := by rw [p256, ← Nat.pow_add]; congr 1; omega
  rw [h3, ← Nat.div_div_eq_div_mul, h1]
theorem ge_pow (a m : Nat) : 2 ^ m ≤ a ↔ a / 2 ^ m ≠ 0 := by
  have hp : 0 < 2 ^ m := Nat.pow_pos (by omega)
  rw [Ne, Nat.div_eq_zero_iff]; omega

set_option maxRecDepth 100000 in
set_option maxHeartbeats 2000000 in
theorem unpack_any (a0 : Option Addr) (cap0 l : Nat) (bs : List Int) (hl : l = bs.length) (n wd : Int) (w : World) (r0 : Rd w .u8 a0 cap0 bs) (hb : Bytes8 bs) (hlb : l ≤ 1000000) :
    Calls Try.prog 19 #[.slice a0 l cap0, .int .i64 n, .int .i64 wd] w (UnpPost w bs n wd) := by
  have HL := Lib.hid hl
  have HR := Lib.hid r0
  have HB := Lib.hid hb
  clear hl r0 hb
  by_cases hf : fitsP n wd
  · have H := Lib.hid hf
    obtain ⟨h1, h2, h3, h4⟩ := hf
    obtain ⟨n, rfl⟩ := Int.eq_ofNat_of_zero_le h1
    obtain ⟨wd, rfl⟩ := Int.eq_ofNat_of_zero_le (show 0 ≤ wd by omega)
    have hE : unpE bs n wd = if bs.length < sizeN n wd then 4 else if sizeN n wd < bs.length ∨ 2 ^ (n * wd) ≤ leN bs then 5 else 0 := by
      unfold unpE; rw [if_neg (by simpa using H.out)]; simp only [Int.toNat_natCast]
    have HE := Lib.hid hE
    obtain ⟨sz, hsz⟩ : ∃ sz, sz = sizeN n wd := ⟨_, rfl⟩
    have hsc : Calls Try.prog 15 #[.int .i64 (n : Int), .int .i64 (wd : Int)] w fun e w' => e = .returned (.int .i64 (sz : Int)) ∧ w = w' := by rw [hsz]; exact size_yes n wd w H.out
    have HSC := Lib.hid hsc
    have HSZ := Lib.hid hsz
    rw [← hsz] at HE
    have hmb := mul_bound n wd (by omega) (by omega)
    obtain ⟨m, hm⟩ : ∃ m, m = n * wd := ⟨_, rfl⟩
    rw [← hm] at hmb HE
    have ew : IntKind.i64.wrap ((n : Int) * (wd : Int)) = (m : Int) := by rw [IntWalk.i64_in _ (by rw [← Int.natCast_mul, ← hm]; omega), hm, Int.natCast_mul]
    have hsm : sz = (m + 7) / 8 := by rw [hsz, hm]; rfl
    have HSM := Lib.hid hsm
    have HM := Lib.hid hm
    have hnm : n ≤ m := by rw [hm]; exact Nat.le_mul_of_pos_right n (by omega)
    clear hE hsz hsc hm hsm
    by_cases c1 : l < sz
    · have he : unpE bs n wd = 4 := by rw [HE.out, if_pos (by rw [← HL.out]; exact c1)]
      have HH := Lib.hid he
      clear he
      go_enter Try.func19, Try.ntmps19
      go_wp2_with (first
        | (go_at_call 35; refine (fits_yes (n : Int) (wd : Int) _ H.out).mono ?_; rintro e w' ⟨rfl, rfl⟩)
        | (go_at_call 15; refine HSC.out.mono ?_; rintro e w' ⟨rfl, rfl⟩))
      go_ret2
      exact unpost_bad HH.out (by omega)
    · by_cases c2 : sz < l
      · have he : unpE bs n wd = 5 := by rw [HE.out, if_neg (by rw [← HL.out]; exact c1), if_pos (.inl (by rw [← HL.out]; exact c2))]
        have HH := Lib.hid he
        clear he
        go_enter Try.func19, Try.ntmps19
        go_wp2_with (first
          | (go_at_call 35; refine (fits_yes (n : Int) (wd : Int) _ H.out).mono ?_; rintro e w' ⟨rfl, rfl⟩)
          | (go_at_call 15; refine HSC.out.mono ?_; rintro e w' ⟨rfl, rfl⟩))
        go_ret2
        exact unpost_bad HH.out (by omega)
      · have hls : l = sz := by omega
        have HLS := Lib.hid hls
        have hsl : bs.length = sz := by rw [← HL.out, hls]
        obtain ⟨r, hr⟩ : ∃ r, r = m % 8 := ⟨_, rfl⟩
        have er : (m : Int) % 8 = (r : Int) := by omega
        have hbad : (r ≠ 0 ∧ 2 ^ m ≤ leN bs) ∨ (leN bs < 2 ^ m) := by
          by_cases hr0 : r = 0
          · refine .inr ?_
            have := leN_bound bs HB.out
            rw [hsl] at this
            have h8 : 8 * sz = m := by have := HSM.out; omega
            rw [h8] at this; exact this
          · rcases Nat.lt_or_ge (leN bs) (2 ^ m) with h | h
            · exact .inr h
            · exact .inl ⟨hr0, h⟩
        have hmk : ∀ wx : World, _ := fun wx => make_ints (P := Try.prog) wx 22 31 .u64 .i64 .i64 n 8 Try.underlying22 infoU64 (by have := HSM.out; omega) (by omega)
        have hn1 : n ≤ 8000000 := by have := HSM.out; omega
        have hszb : sz ≤ 1000000 := by omega
        have hfin : ∀ wx : World, 0 < sz → r ≠ 0 → ∃ (q y c : Nat), q + 1 = sz ∧ nth bs q = (y : Int) ∧ y ≤ 255 ∧ c = y / 2 ^ r ∧ leN bs / 2 ^ m = c := by
          intro wx h0 hr0
          have hql : sz - 1 < bs.length := by omega
          have hyb := HB.out _ (nth_mem hql)
          obtain ⟨y, hy⟩ := Int.eq_ofNat_of_zero_le hyb.1
          refine ⟨sz - 1, y, y / 2 ^ r, by omega, hy, by omega, rfl, ?_⟩
          rw [top_bits bs HB.out m (sz - 1) r (by have := HSM.out; omega) hr (by omega), hy, Int.toNat_natCast]
        have HFIN := Lib.hid hfin
        have hr8 : r ≤ 7 := by omega
        have hrs : r ≠ 0 → 0 < sz := by intro h; have := HSM.out; omega
        have HRS := Lib.hid hrs
        clear hls hr hfin hrs c1 c2
        rcases hbad with ⟨hr0, hge⟩ | hlt
        · have he : unpE bs n wd = 5 := by rw [HE.out, if_neg (by omega), if_pos (.inr hge)]
          have HH := Lib.hid he
          obtain ⟨q, y, c, hqs, hy, hyb, hcc, hdv⟩ := HFIN.out w (HRS.out hr0) hr0
          have hc0 : c ≠ 0 := by rw [← hdv]; exact (ge_pow _ _).1 hge
          obtain ⟨b, off, rfl, hcell⟩ := HR.out.2.2 q (by omega)
          rw [hy] at hcell
          have eq1 : IntKind.i64.wrap ((sz : Int) - 1) = (q : Int) := by rw [IntWalk.i64_in _ (by omega)]; omega
          have e6 : (y : Int) / 2 ^ r = (c : Int) := by rw [hcc, Int.natCast_ediv, Int.natCast_pow]; rfl
          have er0 : ((r : Int) != 0) = true := by rw [bne_iff_ne]; omega
          have ec0 : ((c : Int) != 0) = true := by rw [bne_iff_ne]; omega
          have hc255 : (c : Int) ≤ 255 := by have := Nat.div_le_self y (2 ^ r); omega
          have hql : q < l := by have := HLS.out; omega
          have l1 : ¬ l < sz := by have := HLS.out; omega
          have l2 : ¬ sz < l := by have := HLS.out; omega
          clear he hqs hy hcc hdv hge hsl hmk
          go_enter Try.func19, Try.ntmps19
          go_wp2_with (first
            | (go_at_call 35; refine (fits_yes (n : Int) (wd : Int) _ H.out).mono ?_; rintro e w' ⟨rfl, rfl⟩)
            | (go_at_call 15; refine HSC.out.mono ?_; rintro e w' ⟨rfl, rfl⟩))
          go_ret2
          exact unpost_bad HH.out (by omega)
        · have he : unpE bs n wd = 0 := by rw [HE.out, if_neg (by omega), if_neg (by omega)]
          have hlst : unpL bs n wd = unp (leN bs) wd n := by unfold unpL; rw [if_pos he]; simp only [Int.toNat_natCast]
          have HH := Lib.hid he
          have HLST := Lib.hid hlst
          have l1 : ¬ l < sz := by have := HLS.out; omega
          have l2 : ¬ sz < l := by have := HLS.out; omega
          have HLT := Lib.hid hlt
          have HSL := Lib.hid hsl
          clear he hlst hlt hsl
          by_cases hr0 : r = 0
          · subst hr0
            go_enter Try.func19, Try.ntmps19
            go_wp2_with (first
              | (go_at_call 35; refine (fits_yes (n : Int) (wd : Int) _ H.out).mono ?_; rintro e w' ⟨rfl, rfl⟩)
              | (go_at_call 15; refine HSC.out.mono ?_; rintro e w' ⟨rfl, rfl⟩))
            have hgrow : Own (w.alloc (.cells (ints .u64 (List.replicate n 0)) 31)) w.heap.size 31 .u64 (some ⟨w.heap.size, 0, none⟩) n (List.replicate n 0) := by
              have := Own.row (k := .u64) (zs := List.replicate n 0) (base := w.heap.size) (e := 31) (Nat.le_refl _) (heap_alloc_at (w := w) (o := .cells (ints .u64 (List.replicate n 0)) 31) rfl) (by simp; omega)
              rwa [List.length_replicate] at this
            have kp0 : Kp [] w (w.alloc (.cells (ints .u64 (List.replicate n 0)) 31)) := (Kp.refl [] w).alloc _
            generalize w.alloc (.cells (ints .u64 (List.replicate n 0)) 31) = w1 at *
            obtain ⟨g, hg⟩ : ∃ g, g = w.heap.size := ⟨_, rfl⟩
            rw [← hg] at hgrow ⊢
            have HG := Lib.hid hg
            clear hmk hg ew
            try clear er
            try clear e6
            try clear eq1
            try clear er0
            try clear hcell
            go_loopw [50] (fun vi wr => ∃ (i : Nat) (s : List Int), i ≤ n ∧ vi = .int .i64 i ∧ s.length = n ∧ s.take i = unp (leN bs) wd i ∧ Own wr g 31 .u64 (some ⟨g, 0, none⟩) n s ∧ Kp [] w wr) (fun vi _ => n - (intOf vi).toNat)
            case atStart => exact ⟨0, _, Nat.zero_le _, rfl, by simp, by simp [unp], hgrow, kp0⟩
            case round =>
              obtain ⟨i, s, hi, rfl, hs, hst, ho, kp⟩ := hrel
              have HS := Lib.hid hs
              have HST := Lib.hid hst
              clear hs hst hgrow kp0
              by_cases hlt2 : i < n
              · have HGT := Lib.hid (pget_any _ cap0 l bs HL.out i wd wr (HR.out.keep0 kp) HB.out ⟨by omega, by omega, h3, h4⟩)
                go_wp2_with fail
                refine HGT.out.mono ?_
                rintro e w' ⟨rfl, rfl⟩
                obtain ⟨g', eg, c1, f1, -, -⟩ := ho.at' (i := i) (by rw [HS.out]; exact hlt2)
                cases eg
                have HO := Lib.hid ho
                clear ho
                go_wp2_with fail
                go_roundw
                case rel =>
                  refine ⟨i + 1, s.set i ((gets (leN bs) i wd : Nat) : Int), hlt2, by go_num, by simp [HS.out], ?_, HO.out.set i _, kp.setCell _ _ (.inr (by rw [HG.out]; exact Nat.le_refl _))⟩
                  rw [take_set' _ _ _ (by rw [HS.out]; exact hlt2), HST.out, unp_step]
                case measure => simp [intOf]; omega
              · obtain rfl : i = n := by omega
                have hse : s = unp (leN bs) wd i := by rw [← HST.out]; exact (List.take_of_length_le (by rw [HS.out]; exact Nat.le_refl _)).symm
                have HSE := Lib.hid hse
                clear hse
                go_wp2_with fail
                go_ret2
                refine ⟨some ⟨g, 0, none⟩, i, ?_, ?_, kp⟩
                · rw [HLST.out, HH.out, unp_length]; rfl
                · rw [HLST.out, ← HG.out, ← HSE.out]; exact ho
          · obtain ⟨q, y, c, hqs, hy, hyb, hcc, hdv⟩ := HFIN.out w (HRS.out hr0) hr0
            have hc0 : c = 0 := by rw [← hdv]; exact Nat.div_eq_of_lt HLT.out
            subst hc0
            obtain ⟨b, off, rfl, hcell⟩ := HR.out.2.2 q (by have := HSL.out; omega)
            rw [hy] at hcell
            have eq1 : IntKind.i64.wrap ((sz : Int) - 1) = (q : Int) := by rw [IntWalk.i64_in _ (by omega)]; omega
            have e6 : (y : Int) / 2 ^ r = 0 := by
              have : ((y / 2 ^ r : Nat) : Int) = 0 := by rw [← hcc]; rfl
              rwa [Int.natCast_ediv, Int.natCast_pow] at this
            have er0 : ((r : Int) == 0) = false := by rw [beq_eq_false_iff_ne]; omega
            have hql : q < l := by have := HLS.out; omega
            clear hqs hy hcc hdv
            go_enter Try.func19, Try.ntmps19
            go_wp2_with (first
              | (go_at_call 35; refine (fits_yes (n : Int) (wd : Int) _ H.out).mono ?_; rintro e w' ⟨rfl, rfl⟩)
              | (go_at_call 15; refine HSC.out.mono ?_; rintro e w' ⟨rfl, rfl⟩))
            have hgrow : Own (w.alloc (.cells (ints .u64 (List.replicate n 0)) 31)) w.heap.size 31 .u64 (some ⟨w.heap.size, 0, none⟩) n (List.replicate n 0) := by
              have := Own.row (k := .u64) (zs := List.replicate n 0) (base := w.heap.size) (e := 31) (Nat.le_refl _) (heap_alloc_at (w := w) (o := .cells (ints .u64 (List.replicate n 0)) 31) rfl) (by simp; omega)
              rwa [List.length_replicate] at this
            have kp0 : Kp [] w (w.alloc (.cells (ints .u64 (List.replicate n 0)) 31)) := (Kp.refl [] w).alloc _
            generalize w.alloc (.cells (ints .u64 (List.replicate n 0)) 31) = w1 at *
            obtain ⟨g, hg⟩ : ∃ g, g = w.heap.size := ⟨_, rfl⟩
            rw [← hg] at hgrow ⊢
            have HG := Lib.hid hg
            clear hmk hg ew
            try clear er
            try clear e6
            try clear eq1
            try clear er0
            try clear hcell
            go_loopw [50] (fun vi wr => ∃ (i : Nat) (s : List Int), i ≤ n ∧ vi = .int .i64 i ∧ s.length = n ∧ s.take i = unp (leN bs) wd i ∧ Own wr g 31 .u64 (some ⟨g, 0, none⟩) n s ∧ Kp [] w wr) (fun vi _ => n - (intOf vi).toNat)
            case atStart => exact ⟨0, _, Nat.zero_le _, rfl, by simp, by simp [unp], hgrow, kp0⟩
            case round =>
              obtain ⟨i, s, hi, rfl, hs, hst, ho, kp⟩ := hrel
              have HS := Lib.hid hs
              have HST := Lib.hid hst
              clear hs hst hgrow kp0
              by_cases hlt2 : i < n
              · have HGT := Lib.hid (pget_any _ cap0 l bs HL.out i wd wr (HR.out.keep0 kp) HB.out ⟨by omega, by omega, h3, h4⟩)
                go_wp2_with fail
                refine HGT.out.mono ?_
                rintro e w' ⟨rfl, rfl⟩
                obtain ⟨g', eg, c1, f1, -, -⟩ := ho.at' (i := i) (by rw [HS.out]; exact hlt2)
                cases eg
                have HO := Lib.hid ho
                clear ho
                go_wp2_with fail
                go_roundw
                case rel =>
                  refine ⟨i + 1, s.set i ((gets (leN bs) i wd : Nat) : Int), hlt2, by go_num, by simp [HS.out], ?_, HO.out.set i _, kp.setCell _ _ (.inr (by rw [HG.out]; exact Nat.le_refl _))⟩
                  rw [take_set' _ _ _ (by rw [HS.out]; exact hlt2), HST.out, unp_step]
                case measure => simp [intOf]; omega
              · obtain rfl : i = n := by omega
                have hse : s = unp (leN bs) wd i := by rw [← HST.out]; exact (List.take_of_length_le (by rw [HS.out]; exact Nat.le_refl _)).symm
                have HSE := Lib.hid hse
                clear hse
                go_wp2_with fail
                go_ret2
                refine ⟨some ⟨g, 0, none⟩, i, ?_, ?_, kp⟩
                · rw [HLST.out, HH.out, unp_length]; rfl
                · rw [HLST.out, ← HG.out, ← HSE.out]; exact ho
  · have he : unpE bs n wd = 2 := by unfold unpE; rw [if_pos hf]
    have HH := Lib.hid he
    clear he
    go_enter Try.func19, Try.ntmps19
    go_wp2_with (go_at_call 35; refine (fits_no n wd _ hf).mono ?_; rintro e w' ⟨rfl, rfl⟩)
    go_ret2
    exact unpost_bad HH.out (by omega)
end Go.Proofs.Ytgdiffabnalidaa
