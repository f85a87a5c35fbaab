/-
  What isinglassref02's Unpack and Pack tell.
-/
import Derived.Test.YtgdiffabnalidaaRef02
namespace Go.Proofs.Ytgdiffabnalidaa
open Go.RowKit
set_option linter.unusedSimpArgs false
set_option linter.unusedVariables false

set_option maxRecDepth 100000 in
set_option maxHeartbeats 2000000 in
theorem r02unpack_any (a0 : Option Addr) (cap0 l : Nat) (bs : List Int) (hl : l = bs.length) (n wd : Int) (w : World) (r0 : Rd w .u8 a0 cap0 bs) (hb : Bytes8 bs) (hlb : l ≤ 1000000) :
    Calls Try.prog 20 #[.slice a0 l cap0, .int .i64 n, .int .i64 wd] w (UnpPost w bs n wd) := by
  have HL := Lib.hid hl
  have HR := Lib.hid r0
  have HB := Lib.hid hb
  clear hl r0 hb
  by_cases hf : fitsP n wd
  · have H := Lib.hid hf
    obtain ⟨h1, h2, h3, h4⟩ := hf
    obtain ⟨n, rfl⟩ := Int.eq_ofNat_of_zero_le h1
    obtain ⟨wd, rfl⟩ := Int.eq_ofNat_of_zero_le (show 0 ≤ wd by omega)
    have hE : unpE bs n wd = if bs.length < sizeN n wd then 4 else if sizeN n wd < bs.length ∨ 2 ^ (n * wd) ≤ leN bs then 5 else 0 := by
      unfold unpE; rw [if_neg (by simpa using H.out)]; simp only [Int.toNat_natCast]
    have HE := Lib.hid hE
    obtain ⟨sz, hsz⟩ : ∃ sz, sz = sizeN n wd := ⟨_, rfl⟩
    have hsc : Calls Try.prog 16 #[.int .i64 (n : Int), .int .i64 (wd : Int)] w fun e w' => e = .returned (.int .i64 (sz : Int)) ∧ w = w' := by rw [hsz]; exact r02size_yes n wd w H.out
    have HSC := Lib.hid hsc
    have HSZ := Lib.hid hsz
    rw [← hsz] at HE
    have hmb := mul_bound n wd (by omega) (by omega)
    obtain ⟨m, hm⟩ : ∃ m, m = n * wd := ⟨_, rfl⟩
    rw [← hm] at hmb HE
    have ew : IntKind.i64.wrap ((n : Int) * (wd : Int)) = (m : Int) := by rw [IntWalk.i64_in _ (by rw [← Int.natCast_mul, ← hm]; omega), hm, Int.natCast_mul]
    have hsm : sz = (m + 7) / 8 := by rw [hsz, hm]; rfl
    have HSM := Lib.hid hsm
    have HM := Lib.hid hm
    have hnm : n ≤ m := by rw [hm]; exact Nat.le_mul_of_pos_right n (by omega)
    clear hE hsz hsc hm hsm
    by_cases c1 : l < sz
    · have he : unpE bs n wd = 4 := by rw [HE.out, if_pos (by rw [← HL.out]; exact c1)]
      have HH := Lib.hid he
      clear he
      go_enter Try.func20, Try.ntmps20
      go_wp2_with (first
        | (go_at_call 37; refine (may02_yes (n : Int) (wd : Int) _ H.out).mono ?_; rintro e w' ⟨rfl, rfl⟩)
        | (go_at_call 16; refine HSC.out.mono ?_; rintro e w' ⟨rfl, rfl⟩))
      go_ret2
      exact unpost_bad HH.out (by omega)
    · by_cases c2 : sz < l
      · have he : unpE bs n wd = 5 := by rw [HE.out, if_neg (by rw [← HL.out]; exact c1), if_pos (.inl (by rw [← HL.out]; exact c2))]
        have HH := Lib.hid he
        clear he
        go_enter Try.func20, Try.ntmps20
        go_wp2_with (first
          | (go_at_call 37; refine (may02_yes (n : Int) (wd : Int) _ H.out).mono ?_; rintro e w' ⟨rfl, rfl⟩)
          | (go_at_call 16; refine HSC.out.mono ?_; rintro e w' ⟨rfl, rfl⟩))
        go_ret2
        exact unpost_bad HH.out (by omega)
      · have hls : l = sz := by omega
        have HLS := Lib.hid hls
        have hsl : bs.length = sz := by rw [← HL.out, hls]
        have HSL := Lib.hid hsl
        have hn1 : n ≤ 8000000 := by have := HSM.out; omega
        have hml : m ≤ 8 * l := by have := HSM.out; omega
        have hbnd := leN_bound bs HB.out
        have HBND := Lib.hid hbnd
        clear hls hsl hbnd
        go_enter Try.func20, Try.ntmps20
        go_wp2_with (first
          | (go_at_call 37; refine (may02_yes (n : Int) (wd : Int) _ H.out).mono ?_; rintro e w' ⟨rfl, rfl⟩)
          | (go_at_call 16; refine HSC.out.mono ?_; rintro e w' ⟨rfl, rfl⟩))
        clear ew
        go_loop [8] (fun vk => ∃ d : Nat, m + d ≤ 8 * l ∧ vk = .int .i64 ((m + d : Nat) : Int) ∧ Hid (leN bs / 2 ^ m % 2 ^ d = 0)) (fun vk => 8 * l - (intOf vk).toNat)
        case atStart => exact ⟨0, by omega, rfl, Lib.hid (by simp [Nat.mod_one])⟩
        case round =>
          obtain ⟨d, hd, rfl, hz⟩ := hrel
          obtain ⟨t, ht⟩ : ∃ t, t = m + d := ⟨_, rfl⟩
          rw [← ht]
          have HT := Lib.hid ht
          by_cases hlt : t < 8 * l
          · have hbt := bit_any a0 cap0 l bs HL.out t w HR.out HB.out (by omega)
            obtain ⟨bt, hbv⟩ : ∃ bt, bt = leN bs / 2 ^ t % 2 := ⟨_, rfl⟩
            rw [← hbv] at hbt
            have HBT := Lib.hid hbt
            by_cases hb0 : bt = 0
            · have hnext : leN bs / 2 ^ m % 2 ^ (d + 1) = 0 := by rw [low_step, hz.out, Nat.div_div_eq_div_mul, ← Nat.pow_add, ← ht, ← hbv, hb0]; rfl
              have HN := Lib.hid hnext
              subst hb0
              clear hbt hbv hnext hz ht
              go_wp2_with fail
              refine HBT.out.mono ?_
              rintro e w' ⟨rfl, rfl⟩
              go_wp2_with fail
              go_round
              case rel => exact ⟨d + 1, by have := HT.out; omega, by rw [HT.out]; go_num, HN⟩
              case measure => simp [intOf]; omega
            · have hge : 2 ^ m ≤ leN bs := by
                rcases Nat.lt_or_ge (leN bs) (2 ^ m) with h | h
                · exfalso
                  have : leN bs < 2 ^ t := Nat.lt_of_lt_of_le h (Nat.pow_le_pow_right (by omega) (by omega))
                  rw [Nat.div_eq_of_lt this] at hbv
                  exact hb0 hbv
                · exact h
              have he : unpE bs n wd = 5 := by rw [HE.out, if_neg (by have := HSL.out; omega), if_pos (.inr hge)]
              have HH := Lib.hid he
              have hb2 : ((bt : Int) != 0) = true := by rw [bne_iff_ne]; omega
              clear hbt hbv hge he hz ht
              go_wp2_with fail
              refine HBT.out.mono ?_
              rintro e w' ⟨rfl, rfl⟩
              go_wp2_with fail
              go_ret2
              exact unpost_bad HH.out (by omega)
          · have hltm : leN bs < 2 ^ m := by
              have h1 : leN bs / 2 ^ m < 2 ^ d := by
                rw [Nat.div_lt_iff_lt_mul (Nat.pow_pos (by omega)), ← Nat.pow_add, Nat.add_comm d]
                exact Nat.lt_of_lt_of_le HBND.out (Nat.pow_le_pow_right (by omega) (by rw [← HL.out]; omega))
              have h2 := hz.out
              rw [Nat.mod_eq_of_lt h1, Nat.div_eq_zero_iff] at h2
              have : 0 < 2 ^ m := Nat.pow_pos (by omega)
              omega
            have he : unpE bs n wd = 0 := by rw [HE.out, if_neg (by have := HSL.out; omega), if_neg (by have := HSL.out; omega)]
            have hlst : unpL bs n wd = unp (leN bs) wd n := by unfold unpL; rw [if_pos he]; simp only [Int.toNat_natCast]
            have HH := Lib.hid he
            have HLST := Lib.hid hlst
            clear he hlst hltm hz ht
            go_wp2_with fail
            go_loopw [9, 10] (fun vl vi wr => ∃ (i : Nat) (ad : Option Addr) (cap : Nat), i ≤ n ∧ vi = .int .i64 i ∧ vl = .slice ad i cap ∧ Own wr w.heap.size 31 .u64 ad cap (unp (leN bs) wd i) ∧ Kp [] w wr) (fun _ vi _ => n - (intOf vi).toNat)
            case atStart => exact ⟨0, none, 0, Nat.zero_le _, rfl, rfl, Own.nil _ _ _ _, Kp.refl _ _⟩
            case round =>
              obtain ⟨i, ad, cap, hi, rfl, rfl, ho, kp⟩ := hrel
              have HO := Lib.hid ho
              have hsw := kp.size
              clear ho
              by_cases hlt2 : i < n
              · have HGT := Lib.hid (r02get_any _ cap0 l bs HL.out i wd wr (HR.out.keep0 kp) HB.out ⟨by omega, by omega, h3, h4⟩)
                go_wp2_with fail
                refine HGT.out.mono ?_
                rintro e w' ⟨rfl, rfl⟩
                go_wp2_with (at_builtin; go_must (refine wpList_app rfl _ _ 22 22 rfl w.heap.size 31 .u64 8 Try.underlying22 infoU64 ad cap i (unp (leN bs) wd i) (unp_length _ _ _).symm [_] _ 1 rfl rfl rfl (HO.out.alloc _) (src_one Try.underlying22 (World.cell?_alloc_at _ _ _ _ rfl)) (by omega) (by omega) (by simp; omega) ?_); intro ad2 cap2 w2 ho3 kp3 hob3 _)
                go_roundw
                case rel =>
                  refine ⟨i + 1, ad2, cap2, hlt2, by go_num, rfl, ?_, (kp.alloc _).trans kp3 (by simp) (fun x hx => .inr (HO.out.ob_ge x hx).1)⟩
                  rw [unp_step]; exact ho3
                case measure => simp [intOf]; omega
              · obtain rfl : i = n := by omega
                go_wp2_with fail
                go_ret2
                refine ⟨ad, cap, ?_, ?_, kp⟩
                · rw [HLST.out, HH.out, unp_length]; rfl
                · rw [HLST.out]; exact HO.out
  · have he : unpE bs n wd = 2 := by unfold unpE; rw [if_pos hf]
    have HH := Lib.hid he
    clear he
    go_enter Try.func20, Try.ntmps20
    go_wp2_with (go_at_call 37; refine (may02_no n wd _ hf).mono ?_; rintro e w' ⟨rfl, rfl⟩)
    go_ret2
    exact unpost_bad HH.out (by omega)

/-- Bits, the lowest first, as a number. -/
def bv : List Int → Nat
  | [] => 0
  | b :: r => b.toNat + 2 * bv r
def Bits1 (r : List Int) : Prop := ∀ b ∈ r, b = 0 ∨ b = 1
theorem bv_append (r s : List Int) : bv (r ++ s) = bv r + 2 ^ r.length * bv s := by
  induction r with
  | nil => simp [bv]
  | cons b r ih => simp only [List.cons_append, bv, ih, List.length_cons, Nat.pow_succ]; rw [Nat.mul_add, Nat.add_assoc, ← Nat.mul_assoc, Nat.mul_comm 2 (2 ^ r.length)]
theorem bv_lt (r : List Int) (h : Bits1 r) : bv r < 2 ^ r.length := by
  induction r with
  | nil => simp [bv]
  | cons b r ih =>
    have h1 := h b (by simp)
    have h2 := ih (fun y hy => h y (List.mem_cons_of_mem _ hy))
    simp only [bv, List.length_cons, Nat.pow_succ]; omega
theorem bv_take (r : List Int) (i : Nat) (h : i < r.length) : bv (r.take (i + 1)) = bv (r.take i) + 2 ^ i * (nth r i).toNat := by
  rw [take_nth r i h, bv_append, List.length_take, Nat.min_eq_left (by omega)]
  simp [bv]
theorem le_more (s n : Nat) (h : n < 256 ^ s) : le n (s + 1) = le n s ++ [0] := by
  rw [le_snoc, Nat.div_eq_of_lt h]; rfl

set_option maxRecDepth 100000 in
set_option maxHeartbeats 2000000 in
theorem r02pack_bad (a0 : Option Addr) (cap0 n : Nat) (wd : Int) (w : World) (h : ¬ (1 ≤ wd ∧ wd ≤ 64)) :
    Calls Try.prog 13 #[.slice a0 n cap0, .int .i64 wd] w fun e w' => e = .returned (.tuple #[.slice none 0 0, .int .i64 2]) ∧ w = w' := by
  by_cases h1 : wd < 1
  · clear h
    go_enter Try.func13, Try.ntmps13
    go_wp2
    go_ret2
    exact ⟨rfl, rfl⟩
  · have h2 : 64 < wd := by omega
    clear h
    go_enter Try.func13, Try.ntmps13
    go_wp2
    go_ret2
    exact ⟨rfl, rfl⟩

theorem bits1_snoc {r : List Int} {b : Nat} (h : Bits1 r) (hb : b ≤ 1) : Bits1 (r ++ [(b : Int)]) := by
  intro z hz
  rcases List.mem_append.1 hz with hz | hz
  · exact h z hz
  · simp at hz; omega
theorem bits1_take {r : List Int} (h : Bits1 r) (i : Nat) : Bits1 (r.take i) := fun b hb => h b (List.mem_of_mem_take hb)

set_option maxRecDepth 100000 in
set_option maxHeartbeats 3000000 in
theorem r02pack_any (a0 : Option Addr) (cap0 n wd : Nat) (l : List Int) (hn : n = l.length) (w : World) (r0 : Rd w .u64 a0 cap0 l) (hu : U64s l) (h : fitsP n wd) (hnb : n ≤ 1000000) :
    Calls Try.prog 13 #[.slice a0 n cap0, .int .i64 (wd : Int)] w (PackPost w wd l n) := by
  obtain ⟨h1, h2, h3, h4⟩ := h
  have hwd : wd ≤ 64 := by omega
  have HN := Lib.hid hn
  have HR := Lib.hid r0
  have HU := Lib.hid hu
  have hm64 : n * wd ≤ 64000000 := Nat.le_trans (Nat.mul_le_mul hnb hwd) (by decide)
  have HM64 := Lib.hid hm64
  clear hn r0 hu h1 h2 hm64
  go_enter Try.func13, Try.ntmps13
  go_wp2
  go_loopw [6, 7] (fun vr vi wr => ∃ (i iw : Nat) (ad : Option Addr) (cap : Nat) (row : List Int), i ≤ n ∧ vi = .int .i64 i ∧ vr = .slice ad iw cap ∧ Own wr w.heap.size 5 .u8 ad cap row ∧ Hid (iw = i * wd ∧ row.length = iw ∧ Bits1 row ∧ bv row = vn wd (l.take i) ∧ Fit wd (l.take i)) ∧ Kp [] w wr) (fun _ vi _ => n - (intOf vi).toNat)
  case atStart => exact ⟨0, 0, none, 0, [], Nat.zero_le _, rfl, rfl, Own.nil _ _ _ _, Lib.hid ⟨by simp, rfl, by intro b hb; simp at hb, by simp [bv, vn], by intro z hz; simp at hz⟩, Kp.refl _ _⟩
  case round =>
    obtain ⟨i, iw, ad, cap, row, hi, rfl, rfl, ho, hF, kp⟩ := hrel
    obtain ⟨wo, rfl⟩ : ∃ wo : World, wo = wr := ⟨_, rfl⟩
    have HO := Lib.hid ho
    clear ho
    by_cases hlt : i < n
    · have hil : i < l.length := by rw [← HN.out]; exact hlt
      obtain ⟨b, off, rfl, hc⟩ := (HR.out.keep0 kp).2.2 i hil
      have hxb := HU.out _ (nth_mem hil)
      obtain ⟨x, hx⟩ := Int.eq_ofNat_of_zero_le hxb.1
      rw [hx] at hc hxb
      have HX64 : Hid (x < 18446744073709551616) := Lib.hid (by omega)
      have HX := Lib.hid hx
      have hiwb : iw + wd ≤ 64000000 := by
        have h1 : (i + 1) * wd ≤ n * wd := Nat.mul_le_mul_right _ hlt
        rw [Nat.succ_mul, ← hF.out.1] at h1
        exact Nat.le_trans h1 HM64.out
      clear hx hxb
      go_wp2
      clear hc
      go_loopw [6, 8, 9] (fun vr vx vk wr => ∃ (k : Nat) (ad : Option Addr) (cap : Nat) (row : List Int), k ≤ wd ∧ vk = .int .i64 k ∧ vx = .int .u64 ((x / 2 ^ k : Nat) : Int) ∧ vr = .slice ad (iw + k) cap ∧ Own wr w.heap.size 5 .u8 ad cap row ∧ Hid (row.length = iw + k ∧ Bits1 row ∧ bv row = vn wd (l.take i) + 2 ^ iw * (x % 2 ^ k)) ∧ Kp [] w wr) (fun _ _ vk _ => wd - (intOf vk).toNat)
      case atStart => exact ⟨0, ad, cap, row, Nat.zero_le _, rfl, by simp, rfl, HO.out, Lib.hid ⟨hF.out.2.1, hF.out.2.2.1, by rw [hF.out.2.2.2.1]; simp [Nat.mod_one]⟩, kp⟩
      case round =>
        obtain ⟨k, ad', cap', row', hk, rfl, rfl, rfl, ho2, hF2, kp2⟩ := hrel
        have HO2 := Lib.hid ho2
        have hsw := kp2.size
        clear HO ho2
        obtain ⟨c, hcc⟩ : ∃ c, c = x / 2 ^ k := ⟨_, rfl⟩
        have hcx : c ≤ x := by rw [hcc]; exact Nat.div_le_self _ _
        have HC := Lib.hid hcc
        have HCX := Lib.hid hcx
        rw [← hcc]
        clear hcc hcx
        by_cases hlk : k < wd
        · have ed : IntKind.u64.wrap ((c : Int) / 2) = (c : Int) / 2 := IntWalk.u64_in _ (by have := HX64.out; have := HCX.out; omega)
          have em : IntKind.u64.wrap ((c : Int) % 2) = (c : Int) % 2 := IntWalk.u64_in _ (by omega)
          have em2 : (c : Int) % 2 ≤ 1 := by omega
          go_wp2_with (at_builtin; go_must (refine wpList_app rfl _ _ 24 24 rfl w.heap.size 5 .u8 1 Try.underlying24 infoU8 ad' cap' (iw + k) row' hF2.out.1.symm [_] _ 1 rfl rfl rfl (HO2.out.alloc _) (src_one Try.underlying24 (World.cell?_alloc_at _ _ _ _ rfl)) (by omega) (by omega) (by simp; omega) ?_); intro ad2 cap2 w2 ho3 kp3 hob3 _)
          go_roundw
          case rel =>
            rw [show (c : Int) % 2 = ((c % 2 : Nat) : Int) by omega] at ho3
            refine ⟨k + 1, ad2, cap2, _, hlk, by go_num, ?_, rfl, ho3, Lib.hid ⟨by rw [List.length_append, hF2.out.1]; rfl, bits1_snoc hF2.out.2.1 (by omega), ?_⟩, (kp2.alloc _).trans kp3 (by simp) (fun x hx => .inr (HO2.out.ob_ge x hx).1)⟩
            · rw [Nat.pow_succ, ← Nat.div_div_eq_div_mul, ← HC.out]; simp
            · rw [bv_append, hF2.out.1, hF2.out.2.2, low_step, ← HC.out, Nat.pow_add]
              simp only [bv, Int.toNat_natCast, Nat.mul_zero, Nat.add_zero]
              rw [Nat.mul_add, Nat.mul_assoc, Nat.add_assoc]
          case measure => simp [intOf]; omega
        · obtain rfl : k = wd := by omega
          by_cases hfit : x < 2 ^ k
          · have hc0 : c = 0 := by rw [HC.out]; exact Nat.div_eq_of_lt hfit
            have HFIT := Lib.hid hfit
            subst hc0
            clear hfit
            go_wp2
            go_roundw
            case rel =>
              refine ⟨i + 1, iw + k, ad', cap', row', hlt, by go_num, rfl, HO2.out, Lib.hid ⟨by rw [Nat.succ_mul, ← hF.out.1], hF2.out.1, hF2.out.2.1, ?_, fit_snoc hF.out.2.2.2.2 hil (by rw [HX.out]; omega) (by rw [HX.out, Int.toNat_natCast]; exact HFIT.out)⟩, kp2⟩
              rw [hF2.out.2.2, vn_take k l i hil, HX.out, Int.toNat_natCast, Nat.mod_eq_of_lt HFIT.out, ← hF.out.1]
            case measure => simp [intOf]; omega
          · have hc0 : 0 < c := by rw [HC.out]; exact Nat.div_pos (by omega) (Nat.pow_pos (by omega))
            have hc0' : (0 : Int) < (c : Int) := by omega
            have hnf : ¬ Fit k l := fun hf => by
              have := (hf _ (nth_mem hil)).2
              rw [HX.out, Int.toNat_natCast] at this
              exact hfit this
            have HNF := Lib.hid hnf
            clear hfit hnf
            go_wp2
            go_ret2
            exact ⟨kp2, .inr ⟨HNF.out, rfl⟩⟩
    · obtain rfl : i = n := by omega
      have hall : l.take i = l := List.take_of_length_le (by rw [← HN.out]; exact Nat.le_refl _)
      have hF3 : Hid (iw = i * wd ∧ row.length = iw ∧ Bits1 row ∧ bv row = vn wd l ∧ Fit wd l) := by rw [hall] at hF; exact hF
      have hiwb : iw ≤ 64000000 := by rw [hF3.out.1]; exact HM64.out
      have hrb : ∀ b, b ∈ ob ad cap → b < wo.heap.size := fun b hb => (HO.out.ob_ge b hb).2
      have HRB := Lib.hid hrb
      have hsw := kp.size
      clear hall hF hrb
      go_wp2
      go_loopw [10, 11] (fun vo vj wr => ∃ (j s : Nat) (ad2 : Option Addr) (cap2 : Nat), j ≤ iw ∧ vj = .int .i64 j ∧ vo = .slice ad2 s cap2 ∧ Hid (s = (j + 7) / 8) ∧ Own wr wo.heap.size 5 .u8 ad2 cap2 (le (bv (row.take j)) s) ∧ Own wr w.heap.size 5 .u8 ad cap row ∧ Kp [] w wr ∧ wo.heap.size ≤ wr.heap.size) (fun _ vj _ => iw - (intOf vj).toNat)
      case atStart => exact ⟨0, 0, none, 0, Nat.zero_le _, rfl, rfl, Lib.hid rfl, Own.nil _ _ _ _, HO.out, kp, Nat.le_refl _⟩
      case round =>
        obtain ⟨j, s, ad2, cap2, hj, rfl, rfl, hs, ho2, hor, kp2, hsz2⟩ := hrel
        have HO2 := Lib.hid ho2
        have HOR := Lib.hid hor
        have hsb : s ≤ 8000001 := by have := hs.out; omega
        clear HO ho2 hor
        by_cases hlj : j < iw
        · have hjr : j < row.length := by rw [hF3.out.2.1]; exact hlj
          obtain ⟨q, hq⟩ : ∃ q, q = j / 8 := ⟨_, rfl⟩
          obtain ⟨r, hr⟩ : ∃ r, r = j % 8 := ⟨_, rfl⟩
          obtain ⟨pp, hpp⟩ : ∃ pp, pp = bv (row.take j) := ⟨_, rfl⟩
          have hppl : pp < 2 ^ j := by
            have := bv_lt _ (bits1_take hF3.out.2.2.1 j)
            rw [List.length_take, Nat.min_eq_left (by omega), ← hpp] at this; exact this
          obtain ⟨gr, rfl, cr, -, -, hgr⟩ := HOR.out.at' (i := j) hjr
          have hbit := hF3.out.2.2.1 _ (nth_mem hjr)
          have hnx := bv_take row j hjr
          rw [← hpp] at hnx HO2
          have e1 : (j : Int) / 8 = (q : Int) := by omega
          have e2 : (j : Int) % 8 = (r : Int) := by omega
          have hqb : (q : Int) ≤ 8000001 := by omega
          have hrb : (r : Int) ≤ 7 := by omega
          obtain ⟨d, hd⟩ : ∃ d, d = pp / 256 ^ q % 256 := ⟨_, rfl⟩
          have hlb := le_bit (q + 1) pp j 1 hppl (Nat.le_refl _) (by rw [← hq]; omega)
          rw [← hq, ← hr, ← hd, Nat.one_mul, Nat.one_mul] at hlb
          obtain ⟨hd2, hlb⟩ := hlb
          have hr7 : 2 ^ r ≤ 128 := by
            have : 2 ^ r ≤ 2 ^ 7 := Nat.pow_le_pow_right (by omega) (by omega)
            exact this
          obtain ⟨sh', hsh⟩ : ∃ sh', sh' = 2 ^ r := ⟨_, rfl⟩
          obtain ⟨u, hu⟩ : ∃ u, u = d + 2 ^ r := ⟨_, rfl⟩
          have e5 : (2 : Int) ^ r = (sh' : Int) := by rw [hsh, Int.natCast_pow]; rfl
          have e6 : IntKind.u8.wrap (sh' : Int) = (sh' : Int) := IntWalk.u8_in _ (by omega)
          have e7 : IntKind.u8.wrap ((d : Int) + (sh' : Int)) = (u : Int) := by rw [IntWalk.u8_in _ (by omega)]; omega
          have hshb : (sh' : Int) ≤ 128 := by omega
          have hdb : (d : Int) ≤ 127 := by omega
          rw [← hu] at hlb
          have hpow : Hid (r = 0 → pp < 256 ^ q) := Lib.hid (by intro h0; rw [p256]; have h8 : j = 8 * q := (by omega); rw [← h8]; exact hppl)
          have HLB := Lib.hid hlb
          have HNX := Lib.hid hnx
          have HQ := Lib.hid hq
          have HRr := Lib.hid hr
          have HD := Lib.hid hd
          have HJR := Lib.hid hjr
          have CR := Lib.hid cr
          have hgrl : gr < wo.heap.size := HRB.out gr hgr
          clear hq hr hpp hppl hnx hd hlb hd2 hr7 hsh hu hjr cr
          rcases hbit with hone | hone
          · by_cases hr0 : r = 0
            · subst hr0
              have cr := CR.out; rw [hone] at cr
              have hs1 : s = q := by have := hs.out; have := HQ.out; have := HRr.out; omega
              subst hs1
              have hr00 : ((j : Int) % 8) = 0 := by omega
              clear e2 hr00
              have hz8 : (j : Int) % 8 = 0 := by have := HRr.out; omega
              go_wp2_with (at_builtin; go_must (refine wpList_app rfl _ _ 24 24 rfl wo.heap.size 5 .u8 1 Try.underlying24 infoU8 ad2 cap2 s (le pp s) (le_length _ _).symm [0] _ 1 rfl rfl rfl (HO2.out.alloc _) (src_one Try.underlying24 (World.cell?_alloc_at _ _ _ _ rfl)) (by omega) (by omega) (by simp; omega) ?_); intro ad3 cap3 w3 ho3 kp3 hob3 _; rw [← le_more s pp (hpow.out rfl)] at ho3; have cr3 := kp3.cell (cell_alloc cr) (fun hm => by have := (HO2.out.ob_ge gr hm).1; omega); obtain ⟨g3, rfl, c3, f3, hg3, -⟩ := ho3.at' (i := s) (by rw [le_length]; omega); rw [nth_le (s + 1) pp s (by omega), ← HD.out] at c3; have HO3 := Lib.hid ho3; clear ho3)
              have hor3 : Own w3 w.heap.size 5 .u8 (some ⟨gr, 0, none⟩) cap row := (HOR.out.alloc _).keep kp3 (fun b hb hm => by have := HRB.out b hb; have := (HO2.out.ob_ge b hm).1; omega)
              have kw3 : Kp [] w w3 := (kp2.alloc _).trans kp3 (by simp) (fun y hy => .inr (by have := (HO2.out.ob_ge y hy).1; omega))
              have hz3 := kp3.size
              go_roundw
              case rel =>
                refine ⟨j + 1, s + 1, _, _, hlj, by go_num, rfl, Lib.hid (by have := HQ.out; have := HRr.out; omega), ?_, hor3, kw3, by have := kp3.size; simp at this; (try simp); omega⟩
                rw [HNX.out, hone, show ((0 : Int)).toNat = 0 from rfl, Nat.mul_zero, Nat.add_zero]
                exact HO3.out
              case measure => simp [intOf]; omega
            · have cr := CR.out; rw [hone] at cr
              have hs1 : s = q + 1 := by have := hs.out; have := HQ.out; have := HRr.out; omega
              subst hs1
              have hr0i : ¬ (r : Int) = 0 := by omega
              obtain ⟨g3, rfl, c3, f3, hg3, -⟩ := HO2.out.at' (i := q) (by rw [le_length]; omega)
              rw [nth_le (q + 1) pp q (by omega), ← HD.out] at c3
              go_wp2
              go_roundw
              case rel =>
                refine ⟨j + 1, q + 1, _, _, hlj, by go_num, rfl, Lib.hid (by have := HQ.out; have := HRr.out; omega), ?_, HOR.out, kp2, by simpa using hsz2⟩
                rw [HNX.out, hone, show ((0 : Int)).toNat = 0 from rfl, Nat.mul_zero, Nat.add_zero]
                exact HO2.out
              case measure => simp [intOf]; omega
          · by_cases hr0 : r = 0
            · subst hr0
              have cr := CR.out; rw [hone] at cr
              have hs1 : s = q := by have := hs.out; have := HQ.out; have := HRr.out; omega
              subst hs1
              have hr00 : ((j : Int) % 8) = 0 := by omega
              clear e2 hr00
              have hz8 : (j : Int) % 8 = 0 := by have := HRr.out; omega
              go_wp2_with (at_builtin; go_must (refine wpList_app rfl _ _ 24 24 rfl wo.heap.size 5 .u8 1 Try.underlying24 infoU8 ad2 cap2 s (le pp s) (le_length _ _).symm [0] _ 1 rfl rfl rfl (HO2.out.alloc _) (src_one Try.underlying24 (World.cell?_alloc_at _ _ _ _ rfl)) (by omega) (by omega) (by simp; omega) ?_); intro ad3 cap3 w3 ho3 kp3 hob3 _; rw [← le_more s pp (hpow.out rfl)] at ho3; have cr3 := kp3.cell (cell_alloc cr) (fun hm => by have := (HO2.out.ob_ge gr hm).1; omega); obtain ⟨g3, rfl, c3, f3, hg3, -⟩ := ho3.at' (i := s) (by rw [le_length]; omega); rw [nth_le (s + 1) pp s (by omega), ← HD.out] at c3; have HO3 := Lib.hid ho3; clear ho3)
              have hor3 : Own w3 w.heap.size 5 .u8 (some ⟨gr, 0, none⟩) cap row := (HOR.out.alloc _).keep kp3 (fun b hb hm => by have := HRB.out b hb; have := (HO2.out.ob_ge b hm).1; omega)
              have kw3 : Kp [] w w3 := (kp2.alloc _).trans kp3 (by simp) (fun y hy => .inr (by have := (HO2.out.ob_ge y hy).1; omega))
              have hz3 := kp3.size
              go_roundw
              case rel =>
                refine ⟨j + 1, s + 1, _, _, hlj, by go_num, rfl, Lib.hid (by have := HQ.out; have := HRr.out; omega), ?_, hor3.keep ((Kp.refl [g3] w3).setCell _ _ (by simp)) (fun b hb hm => by have := HRB.out b hb; simp at hm; omega), kw3.setCell _ _ (.inr (show w.heap.size ≤ g3 by omega)), by have := kp3.size; simp at this; (try simp); omega⟩
                rw [HNX.out, hone, show ((1 : Int)).toNat = 1 from rfl, Nat.mul_one, ← Nat.one_mul (2 ^ j), Nat.one_mul, HLB.out]
                exact HO3.out.set s _
              case measure => simp [intOf]; omega
            · have cr := CR.out; rw [hone] at cr
              have hs1 : s = q + 1 := by have := hs.out; have := HQ.out; have := HRr.out; omega
              subst hs1
              have hr0i : ¬ (r : Int) = 0 := by omega
              obtain ⟨g3, rfl, c3, f3, hg3, -⟩ := HO2.out.at' (i := q) (by rw [le_length]; omega)
              rw [nth_le (q + 1) pp q (by omega), ← HD.out] at c3
              go_wp2
              go_roundw
              case rel =>
                refine ⟨j + 1, q + 1, _, _, hlj, by go_num, rfl, Lib.hid (by have := HQ.out; have := HRr.out; omega), ?_, HOR.out.keep ((Kp.refl [g3] wr).setCell _ _ (by simp)) (fun b hb hm => by have := HRB.out b hb; simp at hm; omega), kp2.setCell _ _ (.inr (show w.heap.size ≤ g3 by omega)), by simpa using hsz2⟩
                rw [HNX.out, hone, show ((1 : Int)).toNat = 1 from rfl, Nat.mul_one, ← Nat.one_mul (2 ^ j), Nat.one_mul, HLB.out]
                exact HO2.out.set q _
              case measure => simp [intOf]; omega
        · obtain rfl : j = iw := by omega
          have hall : row.take j = row := List.take_of_length_le (by rw [hF3.out.2.1]; exact Nat.le_refl _)
          rw [hall] at HO2
          go_wp2
          go_ret2
          refine ⟨kp2, .inl ⟨hF3.out.2.2.2.2, ad2, cap2, ?_, ?_⟩⟩
          · unfold sizeN; rw [← hF3.out.1, ← hs.out]; rfl
          · have := HO2.out.mono hsw
            unfold packs sizeN
            rw [← HN.out, ← hF3.out.1, ← hs.out, ← hF3.out.2.2.2.1]
            exact this
end Go.Proofs.Ytgdiffabnalidaa
