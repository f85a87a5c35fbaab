/-
  The walk of CursorReads.
-/
import Derived.Test.YtanodmjolphpfaaLaw01
import Derived.Test.YtanodmjolphpfaaRef01B
import Derived.Deep.DeepCutAuto
import Derived.Deep.CutBlock
import Derived.Outline
namespace Go.Proofs.Ytanodmjolphpfaa
open Go.RowKit
set_option linter.unusedSimpArgs false
set_option linter.unusedVariables false

theorem Own.mem_ob {w : World} {base : Nat} {e : TypeId} {k : IntKind} {ad : Option Addr} {cap : Nat} {zs : List Int} (h : Own w base e k ad cap zs) (hz : zs ≠ []) {x : Addr} (hx : ad = some x) : x.block ∈ ob ad cap := by
  rcases h with ⟨h1, h2⟩ | ⟨g, cur, h1, h2, h3, h4, h5, h6⟩
  · exact (hz h2).elim
  · subst hx
    have : 0 < zs.length := by cases zs with | nil => exact (hz rfl).elim | cons y l => simp
    simp [ob, show ¬ cap = 0 by omega]
theorem Rdr.of_own {w : World} {L p : Nat} {ad : Option Addr} {cap base : Nat} {bs : List Int} (h : w.heap[p]? = some (.cells #[.slice ad bs.length cap, .int .i64 (0 : Nat), .bool false] 82)) (ho : Own w base 5 .u8 ad cap bs)
    (hp : p ∉ ob ad cap) (hL : p < L) (hL2 : ∀ b, b ∈ ob ad cap → b < L) (hb : bs.length ≤ 1099511627776) : Rdr w L p bs 0 false :=
  ⟨ad, cap, h, ho.rd, fun x hx hne e => hp (e ▸ ho.mem_ob hne hx), Nat.zero_le _, hb, hL, fun x hx hne => hL2 _ (ho.mem_ob hne hx)⟩

theorem rdS_le (bs : List Int) (a : Nat) (b : Bool) (n : Int) : (rdS bs a b n).length ≤ bs.length := by
  unfold rdS; split
  · simp [sub]; omega
  · simp

/-- cursor.New, and where its reader's bytes lie. -/
theorem cnew_own (ad : Option Addr) (cap n : Nat) (zs : List Int) (hn : n = zs.length) (w : World) (hr : Rd w .u8 ad cap zs) (hb : n ≤ 1099511627776) :
    Calls Try.prog 30 #[.slice ad n cap] w fun e w' => ∃ p ad' cap', e = .returned (.pointer (some ⟨p, 0, none⟩)) ∧ w.heap.size ≤ p ∧ p < w'.heap.size ∧
      w'.heap[p]? = some (.cells #[.slice ad' n cap', .int .i64 (0 : Nat), .bool false] 82) ∧ Own w' w.heap.size 5 .u8 ad' cap' zs ∧ p ∉ ob ad' cap' ∧ Kp [] w w' := by
  have HN := Lib.hid hn
  have HR := Lib.hid hr
  clear hn hr
  go_enter Try.func30, Try.ntmps30
  go_wp2_with fail
  refine (clone_any ad cap n zs HN.out w HR.out hb).mono ?_
  rintro e w1 ⟨ad1, cap1, rfl, ho1, kp1⟩
  have HO := Lib.hid ho1
  clear ho1
  go_wp2_with fail
  go_ret
  exact ⟨w1.heap.size, ad1, cap1, rfl, kp1.size, by simp, heap_alloc_at rfl, HO.out.alloc _, fun hm => by have := (HO.out.ob_ge _ hm).2; omega, kp1.alloc _⟩

/-- What is left. -/
def lf (bs : List Int) (a : Nat) (b : Bool) : Int := if b then 0 else ((bs.length - a : Nat) : Int)
theorem cleft_any {L : Nat} (p : Nat) (bs : List Int) (a : Nat) (b : Bool) (w : World) (h : Rdr w L p bs a b) :
    Calls Try.prog 35 #[.pointer (some ⟨p, 0, none⟩)] w fun e w' => e = .returned (.int .i64 (lf bs a b)) ∧ Kp [] w w' := by
  cases b with
  | true => exact (cleft_bad p bs a w h).mono fun e w' ⟨h1, h2⟩ => ⟨h1, h2 ▸ Kp.refl _ _⟩
  | false => exact cleft_ok p bs a w h
theorem r01left_any {L : Nat → Prop} (p : Nat) (bs : List Int) (a : Nat) (b : Bool) (w : World) (h : Rdr01 w L p bs a b) :
    Calls Try.prog 43 #[.pointer (some ⟨p, 0, none⟩)] w fun e w' => e = .returned (.int .i64 (lf bs a b)) ∧ Kp [] w w' := by
  cases b with
  | true => exact r01left_bad p bs a w h
  | false => exact r01left_ok p bs a w h

/-- What Uint tells, whatever stands there. -/
theorem cuint_v (p : Nat) (bs : List Int) (a : Nat) (b : Bool) (hb : Bytes8 bs) :
    ∃ (v a' : Nat) (b' : Bool), (∀ (w : World) (L : Nat), Rdr w L p bs a b → Calls Try.prog 31 #[.pointer (some ⟨p, 0, none⟩)] w fun e w' => e = .returned (.int .u64 (v : Int)) ∧ Rdr w' L p bs a' b' ∧ Kp [p] w w') ∧
      (∀ (q : Nat) (w : World) (L : Nat → Prop), Rdr01 w L q bs a b → Calls Try.prog 40 #[.pointer (some ⟨q, 0, none⟩)] w fun e w' => e = .returned (.int .u64 (v : Int)) ∧ Rdr01 w' L q bs a' b' ∧ Kp [q] w w') := by
  cases b with
  | true => exact ⟨0, a, true, fun w L h => (cuint_bad p bs a w h).mono fun e w' ⟨h1, h2⟩ => ⟨h1, h2 ▸ h, h2 ▸ Kp.refl _ _⟩, fun q w L h => (r01uint_bad q bs a w h).mono fun e w' ⟨h1, h2⟩ => ⟨h1, h2 ▸ h, h2 ▸ Kp.refl _ _⟩⟩
  | false =>
    by_cases hs : ∃ n, Stands bs a n
    · obtain ⟨n, hs⟩ := hs
      exact ⟨n, a + (short n).length, false, fun w L h => cuint_yes p bs a n _ w h hb hs rfl, fun q w L h => r01uint_yes q bs a n _ w h hb hs rfl⟩
    · have hs' : ∀ n, ¬ Stands bs a n := fun n h => hs ⟨n, h⟩
      exact ⟨0, a, true, fun w L h => cuint_no p bs a w h hb hs', fun q w L h => r01uint_no q bs a w h hb hs'⟩

theorem cu8_v (p : Nat) (bs : List Int) (a : Nat) (b : Bool) (hb : Bytes8 bs) :
    ∃ (v a' : Nat) (b' : Bool), (v : Int) ≤ 255 ∧ (∀ (w : World) (L : Nat), Rdr w L p bs a b → Calls Try.prog 34 #[.pointer (some ⟨p, 0, none⟩)] w fun e w' => e = .returned (.int .u8 (v : Int)) ∧ Rdr w' L p bs a' b' ∧ Kp [p] w w') ∧
      (∀ (q : Nat) (w : World) (L : Nat → Prop), Rdr01 w L q bs a b → Calls Try.prog 36 #[.pointer (some ⟨q, 0, none⟩), .int .i64 1] w fun e w' => e = .returned (.int .u64 (v : Int)) ∧ Rdr01 w' L q bs a' b' ∧ Kp [q] w w') := by
  have h := rdN_lt bs a b 1 hb
  exact ⟨_, _, _, by omega, fun w L h => cu8_any p bs a b w h hb, fun q w L h => r01number_any q bs a b 1 w h hb (by omega)⟩
theorem cu16_v (p : Nat) (bs : List Int) (a : Nat) (b : Bool) (hb : Bytes8 bs) :
    ∃ (v a' : Nat) (b' : Bool), (v : Int) ≤ 65535 ∧ (∀ (w : World) (L : Nat), Rdr w L p bs a b → Calls Try.prog 37 #[.pointer (some ⟨p, 0, none⟩)] w fun e w' => e = .returned (.int .u16 (v : Int)) ∧ Rdr w' L p bs a' b' ∧ Kp [p] w w') ∧
      (∀ (q : Nat) (w : World) (L : Nat → Prop), Rdr01 w L q bs a b → Calls Try.prog 36 #[.pointer (some ⟨q, 0, none⟩), .int .i64 2] w fun e w' => e = .returned (.int .u64 (v : Int)) ∧ Rdr01 w' L q bs a' b' ∧ Kp [q] w w') := by
  have h := rdN_lt bs a b 2 hb
  exact ⟨_, _, _, by omega, fun w L h => cu16_any p bs a b w h hb, fun q w L h => r01number_any q bs a b 2 w h hb (by omega)⟩
theorem cu32_v (p : Nat) (bs : List Int) (a : Nat) (b : Bool) (hb : Bytes8 bs) :
    ∃ (v a' : Nat) (b' : Bool), (v : Int) ≤ 4294967295 ∧ (∀ (w : World) (L : Nat), Rdr w L p bs a b → Calls Try.prog 38 #[.pointer (some ⟨p, 0, none⟩)] w fun e w' => e = .returned (.int .u32 (v : Int)) ∧ Rdr w' L p bs a' b' ∧ Kp [p] w w') ∧
      (∀ (q : Nat) (w : World) (L : Nat → Prop), Rdr01 w L q bs a b → Calls Try.prog 36 #[.pointer (some ⟨q, 0, none⟩), .int .i64 4] w fun e w' => e = .returned (.int .u64 (v : Int)) ∧ Rdr01 w' L q bs a' b' ∧ Kp [q] w w') := by
  have h := rdN_lt bs a b 4 hb
  exact ⟨_, _, _, by omega, fun w L h => cu32_any p bs a b w h hb, fun q w L h => r01number_any q bs a b 4 w h hb (by omega)⟩
theorem cu64_v (p : Nat) (bs : List Int) (a : Nat) (b : Bool) (hb : Bytes8 bs) :
    ∃ (v a' : Nat) (b' : Bool), (∀ (w : World) (L : Nat), Rdr w L p bs a b → Calls Try.prog 39 #[.pointer (some ⟨p, 0, none⟩)] w fun e w' => e = .returned (.int .u64 (v : Int)) ∧ Rdr w' L p bs a' b' ∧ Kp [p] w w') ∧
      (∀ (q : Nat) (w : World) (L : Nat → Prop), Rdr01 w L q bs a b → Calls Try.prog 36 #[.pointer (some ⟨q, 0, none⟩), .int .i64 8] w fun e w' => e = .returned (.int .u64 (v : Int)) ∧ Rdr01 w' L q bs a' b' ∧ Kp [q] w w') :=
  ⟨_, _, _, fun w L h => cu64_any p bs a b w h hb, fun q w L h => r01number_any q bs a b 8 w h hb (by omega)⟩

theorem rdr_keep_q {w w' : World} {L p q : Nat} {bs : List Int} {a : Nat} {b : Bool} (h : Rdr w L p bs a b) (k : Kp [q] w w') (hq : L ≤ q) : Rdr w' L p bs a b := h.keepS k (by intro x hx; simp at hx; omega)

set_option maxRecDepth 100000 in
set_option maxHeartbeats 3000000 in
theorem reads01_walk (a0 a1 : Option Addr) (cap0 cap1 : Nat) (bs l : List Int) (w : World) (r0 : Rd w .u8 a0 cap0 bs) (r1 : Rd w .i64 a1 cap1 l) (hb8 : Bytes8 bs) (had : ∀ x, a0 = some x → bs ≠ [] → x.block < w.heap.size)
    (hlw : ∀ z ∈ l, -9223372036854775808 ≤ z ∧ z ≤ 9223372036854775807) :
    Calls Try.prog 8 #[.slice a0 bs.length cap0, .slice a1 l.length cap1] w fun e w' => e = .returned (.bool true) ∧ Kp [] w w' := by
  obtain ⟨n, hn⟩ : ∃ n, n = bs.length := ⟨_, rfl⟩
  obtain ⟨m, hm⟩ : ∃ m, m = l.length := ⟨_, rfl⟩
  rw [← hn, ← hm]
  have HN := Lib.hid hn
  have HM := Lib.hid hm
  have H0 := Lib.hid r0
  have H1 := Lib.hid r1
  have HB := Lib.hid hb8
  have HA := Lib.hid had
  have HW := Lib.hid hlw
  clear hn hm r0 r1 hb8 had hlw
  by_cases h1 : 2000 < n
  · go_enter Try.func8, Try.ntmps8
    go_wp2_with (go_at_call 23; refine (known01 _).mono ?_; rintro e w' ⟨rfl, kp⟩)
    go_ret
    exact ⟨rfl, kp⟩
  by_cases h2 : 100 < m
  · go_enter Try.func8, Try.ntmps8
    go_wp2_with (go_at_call 23; refine (known01 _).mono ?_; rintro e w' ⟨rfl, kp⟩)
    go_ret
    exact ⟨rfl, kp⟩
  go_enter Try.func8, Try.ntmps8
  go_wp2_with (at_builtin; refine wpList_app rfl (.tmp 26) (.tmp 27) 40 40 rfl w.heap.size 5 .u8 1 Try.underlying40 infoU8 (some ⟨w.heap.size, 0, none⟩) 0 0 [] rfl bs _ n HN.out rfl rfl (.inl ⟨rfl, rfl⟩) (by rw [HN.out]; exact src_rd (H0.out.alloc _) Try.underlying40) (by omega) (by omega) (by simp) ?_; intro ad1 cap1' w1 ho1 kp1 hob1 _)
  have kw1 : Kp [] w w1 := ((Kp.refl [] w).alloc _).trans kp1 (by simp) (by simp [ob])
  rw [List.nil_append] at ho1
  have HO1 := Lib.hid ho1
  have z1 := kw1.size
  clear ho1 kp1 hob1
  refine (cnew_own ad1 cap1' n bs HN.out w1 HO1.out.rd (by omega)).mono ?_
  rintro e w2 ⟨p, ad2, cap2, rfl, hp0, hp1, hpc, ho2, hpo, kp2⟩
  have kw2 := kw1.tr kp2
  have HPC := Lib.hid hpc
  have HO2 := Lib.hid ho2
  have HPO := Lib.hid hpo
  have HO12 := Lib.hid (HO1.out.keep0 kp2)
  have z2 := kp2.size
  clear hpc ho2 hpo kp2
  go_wp2_with fail
  obtain ⟨q, hq⟩ : ∃ q, q = w2.heap.size := ⟨_, rfl⟩
  have hR1 : Rdr01 (w2.alloc (.cells #[.slice a0 n cap0, .int .i64 0, .bool false] 62)) (fun x => x < w.heap.size ∨ x = q) q bs 0 false :=
    ⟨a0, cap0, by rw [← HN.out, hq]; exact heap_alloc_at rfl, (H0.out.keep0 kw2).alloc _, fun x hx hne => by have := HA.out x hx hne; omega, Nat.zero_le _, by have := HN.out; omega, .inr rfl, fun x hx hne => .inl (HA.out x hx hne)⟩
  have hpc3 := cells_alloc (o := .cells #[.slice a0 n cap0, .int .i64 0, .bool false] 62) HPC.out
  have ho23 := HO2.out.alloc (.cells #[.slice a0 n cap0, .int .i64 0, .bool false] 62)
  have ho13 := HO12.out.alloc (.cells #[.slice a0 n cap0, .int .i64 0, .bool false] 62)
  have kw3 := kw2.alloc (.cells #[.slice a0 n cap0, .int .i64 0, .bool false] 62)
  generalize w2.alloc (.cells #[.slice a0 n cap0, .int .i64 0, .bool false] 62) = w3 at *
  rw [← hq]
  have hg1 : ∀ b, b ∈ ob ad1 cap1' → b < w1.heap.size := fun b hb => (HO1.out.ob_ge b hb).2
  have hg2 : ∀ b, b ∈ ob ad2 cap2 → b < q := fun b hb => by have := (HO2.out.ob_ge b hb).2; omega
  have HG1 := Lib.hid hg1
  have HG2 := Lib.hid hg2
  have hpq : p < q := by omega
  have hqw : w.heap.size ≤ q := by omega
  have hpw : w.heap.size ≤ p := by omega
  have hz12 : w1.heap.size ≤ q := by omega
  have HQ := Lib.hid hq
  have K3 := Lib.hid kw3
  clear HO1 HPC HO2 HO12 hq hg1 hg2 kw3
  go_loopw [38] (fun i wr => ∃ (k : Nat) (s' : List Int), k ≤ n ∧ i = .int .i64 k ∧ s'.length = n ∧ Own wr w.heap.size 5 .u8 ad1 cap1' s' ∧ wr.heap[p]? = some (.cells #[.slice ad2 n cap2, .int .i64 (0 : Nat), .bool false] 82) ∧ Own wr w1.heap.size 5 .u8 ad2 cap2 bs ∧
    Rdr01 wr (fun x => x < w.heap.size ∨ x = q) q bs 0 false ∧ Kp [] w wr) (fun i _ => n - (intOf i).toNat)
  case atStart => exact ⟨0, bs, Nat.zero_le _, rfl, HN.out.symm, ho13, hpc3, ho23, hR1, K3.out⟩
  case round =>
    obtain ⟨k, s', hk, rfl, hs', ho', hpc', ho2', hR', kp'⟩ := hrel
    have HS' := Lib.hid hs'
    clear hs' ho13 hpc3 ho23 hR1
    by_cases hlt : k < n
    · obtain ⟨g, rfl, q1, q2, q3, q4⟩ := ho'.at' (i := k) (by rw [HS'.out]; exact hlt)
      have hgl := HG1.out g q4
      have HPC' := Lib.hid hpc'
      clear hpc'
      go_wp2_with fail
      go_roundw
      case rel =>
        have kset := (Kp.refl [g] wr).setCell ⟨g, k, none⟩ (.int .u8 (IntKind.u8.wrap (nth s' k + 1))) (by simp)
        refine ⟨k + 1, _, hlt, by go_num, ?_, ho'.set k _, ?_, ?_, ?_, kp'.setCell _ _ (.inr q3)⟩
        · simp [HS'.out]
        · exact ((Kp.refl [g] wr).setCell _ _ (by simp)).get HPC'.out (by simp; omega)
        · exact ho2'.keep ((Kp.refl [g] wr).setCell _ _ (by simp)) (fun b hb => by have := (ho2'.ob_ge b hb).1; simp; omega)
        · exact hR'.keepS ((Kp.refl [g] wr).setCell _ _ (by simp)) (by intro x hx; simp at hx; omega)
      case measure => simp [intOf]; omega
    · have hrd : Rdr wr q p bs 0 false := Rdr.of_own (by rw [← HN.out]; exact hpc') ho2' HPO.out hpq HG2.out (by have := HN.out; omega)
      clear hpc' ho2' ho' hk
      go_wp2_with fail
      clear HS' HG1 HG2 HPO HQ K3 kw1 kw2 z1 z2 hp0 hp1
      go_loopw [50] (fun i wr => ∃ (k a : Nat) (b : Bool), k ≤ m ∧ i = .int .i64 k ∧ Rdr wr q p bs a b ∧ Rdr01 wr (fun x => x < w.heap.size ∨ x = q) q bs a b ∧ Kp [] w wr) (fun i _ => m - (intOf i).toNat)
      case atStart => exact ⟨0, 0, false, Nat.zero_le _, rfl, hrd, hR', kp'⟩
      case round =>
        obtain ⟨k, a, b, hk, rfl, hp, hr, kp⟩ := hrel
        clear hrd hR' kp'
        by_cases hlt : k < m
        · obtain ⟨bb, off, rfl, hcell⟩ := (H1.out.keep0 kp).2.2 k (by rw [← HM.out]; exact hlt)
          have hzb := HW.out _ (nth_mem (by rw [← HM.out]; exact hlt))
          generalize nth l k = kz at *
          have HZ := Lib.hid hzb
          clear hzb
          go_upto_block 4 with (fail)
          go_cut [11, 12] (fun v11 v12 wx => ∃ (v a' : Nat) (b' : Bool), v11 = .int .u64 (v : Int) ∧ v12 = .int .u64 (v : Int) ∧ Rdr wx q p bs a' b' ∧ Rdr01 wx (fun x => x < w.heap.size ∨ x = q) q bs a' b' ∧ Kp [] w wx)
          case first =>
            have hcase : kz = 0 ∨ kz = 1 ∨ kz = 2 ∨ kz = 3 ∨ kz = 4 ∨ ((kz == 0) = false ∧ (kz == 1) = false ∧ (kz == 2) = false ∧ (kz == 3) = false ∧ (kz == 4) = false) := by
              simp only [beq_eq_false_iff_ne]; omega
            rcases hcase with rfl | rfl | rfl | rfl | rfl | ⟨z0, z1, z2, z3, z4⟩
            · obtain ⟨v, a', b', hv, hu, hru⟩ := cu8_v p bs a b HB.out
              have HU := Lib.hid hu
              have HRU := Lib.hid hru
              have HP := Lib.hid hp
              have HR := Lib.hid hr
              clear hu hru hp hr
              go_wp2_with fail
              refine (HU.out _ _ HP.out).mono ?_
              rintro e w5 ⟨rfl, hp5, kp5⟩
              have hr5 := HR.out.keepS kp5 (by intro x hx; simp at hx; omega)
              have kw5 : Kp [] w w5 := kp.trans kp5 (by simp) (by intro x hx; simp at hx; exact .inr (by omega))
              go_wp2_with fail
              refine (HRU.out q w5 _ hr5).mono ?_
              rintro e w6 ⟨rfl, hr6, kp6⟩
              go_wp2_with fail
              go_meet
              exact ⟨v, a', b', rfl, rfl, rdr_keep_q hp5 kp6 (Nat.le_refl _), hr6, kw5.trans kp6 (by simp) (by intro x hx; simp at hx; exact .inr (by omega))⟩
            · obtain ⟨v, a', b', hv, hu, hru⟩ := cu16_v p bs a b HB.out
              have HU := Lib.hid hu
              have HRU := Lib.hid hru
              have HP := Lib.hid hp
              have HR := Lib.hid hr
              clear hu hru hp hr
              go_wp2_with fail
              refine (HU.out _ _ HP.out).mono ?_
              rintro e w5 ⟨rfl, hp5, kp5⟩
              have hr5 := HR.out.keepS kp5 (by intro x hx; simp at hx; omega)
              have kw5 : Kp [] w w5 := kp.trans kp5 (by simp) (by intro x hx; simp at hx; exact .inr (by omega))
              go_wp2_with fail
              refine (HRU.out q w5 _ hr5).mono ?_
              rintro e w6 ⟨rfl, hr6, kp6⟩
              go_wp2_with fail
              go_meet
              exact ⟨v, a', b', rfl, rfl, rdr_keep_q hp5 kp6 (Nat.le_refl _), hr6, kw5.trans kp6 (by simp) (by intro x hx; simp at hx; exact .inr (by omega))⟩
            · obtain ⟨v, a', b', hv, hu, hru⟩ := cu32_v p bs a b HB.out
              have HU := Lib.hid hu
              have HRU := Lib.hid hru
              have HP := Lib.hid hp
              have HR := Lib.hid hr
              clear hu hru hp hr
              go_wp2_with fail
              refine (HU.out _ _ HP.out).mono ?_
              rintro e w5 ⟨rfl, hp5, kp5⟩
              have hr5 := HR.out.keepS kp5 (by intro x hx; simp at hx; omega)
              have kw5 : Kp [] w w5 := kp.trans kp5 (by simp) (by intro x hx; simp at hx; exact .inr (by omega))
              go_wp2_with fail
              refine (HRU.out q w5 _ hr5).mono ?_
              rintro e w6 ⟨rfl, hr6, kp6⟩
              go_wp2_with fail
              go_meet
              exact ⟨v, a', b', rfl, rfl, rdr_keep_q hp5 kp6 (Nat.le_refl _), hr6, kw5.trans kp6 (by simp) (by intro x hx; simp at hx; exact .inr (by omega))⟩
            · obtain ⟨v, a', b', hu, hru⟩ := cu64_v p bs a b HB.out
              have HU := Lib.hid hu
              have HRU := Lib.hid hru
              have HP := Lib.hid hp
              have HR := Lib.hid hr
              clear hu hru hp hr
              go_wp2_with fail
              refine (HU.out _ _ HP.out).mono ?_
              rintro e w5 ⟨rfl, hp5, kp5⟩
              have hr5 := HR.out.keepS kp5 (by intro x hx; simp at hx; omega)
              have kw5 : Kp [] w w5 := kp.trans kp5 (by simp) (by intro x hx; simp at hx; exact .inr (by omega))
              go_wp2_with fail
              refine (HRU.out q w5 _ hr5).mono ?_
              rintro e w6 ⟨rfl, hr6, kp6⟩
              go_wp2_with fail
              go_meet
              exact ⟨v, a', b', rfl, rfl, rdr_keep_q hp5 kp6 (Nat.le_refl _), hr6, kw5.trans kp6 (by simp) (by intro x hx; simp at hx; exact .inr (by omega))⟩
            · obtain ⟨v, a', b', hu, hru⟩ := cuint_v p bs a b HB.out
              have HU := Lib.hid hu
              have HRU := Lib.hid hru
              have HP := Lib.hid hp
              have HR := Lib.hid hr
              clear hu hru hp hr
              go_wp2_with fail
              refine (HU.out _ _ HP.out).mono ?_
              rintro e w5 ⟨rfl, hp5, kp5⟩
              have hr5 := HR.out.keepS kp5 (by intro x hx; simp at hx; omega)
              have kw5 : Kp [] w w5 := kp.trans kp5 (by simp) (by intro x hx; simp at hx; exact .inr (by omega))
              go_wp2_with fail
              refine (HRU.out q w5 _ hr5).mono ?_
              rintro e w6 ⟨rfl, hr6, kp6⟩
              go_wp2_with fail
              go_meet
              exact ⟨v, a', b', rfl, rfl, rdr_keep_q hp5 kp6 (Nat.le_refl _), hr6, kw5.trans kp6 (by simp) (by intro x hx; simp at hx; exact .inr (by omega))⟩
            · by_cases h5 : 4 < kz
              · have hnv : IntKind.i64.wrap (kz - 5) = kz - 5 := IntWalk.i64_in _ (by have := HZ.out; omega)
                obtain ⟨wo, rfl⟩ : ∃ wo : World, wo = wr := ⟨_, rfl⟩
                have hx := cbytes_any p bs a b (kz - 5) wo hp
                have hy := fun wx (h : Rdr01 wx (fun x => x < w.heap.size ∨ x = q) q bs a b) => r01bytes_any q bs a b (kz - 5) wx h
                have hsn := rdS_le bs a b (kz - 5)
                generalize rdS bs a b (kz - 5) = s at hx hy hsn
                generalize rdSA bs a b (kz - 5) = a' at hx hy
                generalize rdSB bs a b (kz - 5) = b' at hx hy
                obtain ⟨ls, hls⟩ : ∃ ls, ls = s.length := ⟨_, rfl⟩
                simp only [← hls] at hx hy hsn
                have hl2 : ls ≤ 2000 := by have := HN.out; omega
                have HLS := Lib.hid hls
                have HX := Lib.hid hx
                have HY := Lib.hid hy
                have HR := Lib.hid hr
                have hqlt : q < wo.heap.size := let ⟨_, _, h, _⟩ := hr; lt_of_heap h
                have hsw := kp.size
                clear hx hy hr hp hls hsn
                go_wp2_with fail
                refine HX.out.mono ?_
                rintro e w5 ⟨ad5, cap5, rfl, ho5, hp5, kp5⟩
                have hr5 := HR.out.keepS kp5 (by intro x hx; simp at hx; omega)
                have kw5 : Kp [] w w5 := kp.trans kp5 (by simp) (by intro x hx; simp at hx; exact .inr (by omega))
                go_wp2_with fail
                refine (HY.out w5 hr5).mono ?_
                rintro e w6 ⟨ad6, cap6, rfl, ho6, hr6, kp6⟩
                have ho56 := ho5.keep kp6 (fun b hb => by have := (ho5.ob_ge b hb).1; simp; omega)
                have hp6 := rdr_keep_q hp5 kp6 (Nat.le_refl _)
                have kw6 : Kp [] w w6 := kw5.trans kp6 (by simp) (by intro x hx; simp at hx; exact .inr (by omega))
                have hcv5 := conv_str (P := Try.prog) w6 40 9 5 Try.underlying40 Try.underlying5 Try.underlying9 ad5 cap5 ls s ho56.rd HLS.out
                have hcv6 := conv_str (P := Try.prog) w6 40 9 5 Try.underlying40 Try.underlying5 Try.underlying9 ad6 cap6 ls s ho6.rd HLS.out
                have HO5 := Lib.hid ho56
                have HP6 := Lib.hid hp6
                have HR6 := Lib.hid hr6
                clear ho5 ho56 ho6 hp5 hp6 hr5 hr6 kp5 kp6 kw5
                go_wp2_with fail
                clear hcv5 hcv6
                go_loopw [73] (fun i wy => ∃ (j : Nat) (s' : List Int), j ≤ ls ∧ i = .int .i64 j ∧ s'.length = ls ∧ Own wy wo.heap.size 5 .u8 ad5 cap5 s' ∧ Rdr wy q p bs a' b' ∧ Rdr01 wy (fun x => x < w.heap.size ∨ x = q) q bs a' b' ∧ Kp [] w wy) (fun i _ => ls - (intOf i).toNat)
                case atStart => exact ⟨0, s, Nat.zero_le _, rfl, HLS.out.symm, HO5.out, HP6.out, HR6.out, kw6⟩
                case round =>
                  obtain ⟨j, s', hj, rfl, hs', ho', hp', hr', kp'⟩ := hrel
                  have HS' := Lib.hid hs'
                  clear hs' kw6
                  by_cases hlt2 : j < ls
                  · obtain ⟨g, rfl, q1, q2, q3, q4⟩ := ho'.at' (i := j) (by rw [HS'.out]; exact hlt2)
                    have HP' := Lib.hid hp'
                    have HR' := Lib.hid hr'
                    clear hp' hr'
                    go_wp2_with fail
                    go_roundw
                    case rel =>
                      exact ⟨j + 1, _, hlt2, by go_num, by simp [HS'.out], ho'.set j _, HP'.out.keepS ((Kp.refl [g] _).setCell _ _ (by simp)) (by intro x hx; simp at hx; omega), HR'.out.keepS ((Kp.refl [g] _).setCell _ _ (by simp)) (by intro x hx; simp at hx; omega), kp'.setCell _ _ (.inr (show w.heap.size ≤ g by omega))⟩
                    case measure => simp [intOf]; omega
                  · have HP' := Lib.hid hp'
                    have HR' := Lib.hid hr'
                    clear hp' hr'
                    go_wp2_with fail
                    go_meet
                    exact ⟨0, a', b', rfl, rfl, HP'.out, HR'.out, kp'⟩
              · obtain ⟨wo, rfl⟩ : ∃ wo : World, wo = wr := ⟨_, rfl⟩
                have hx := cbytes_any p bs a b kz wo hp
                have hy := fun wx (h : Rdr01 wx (fun x => x < w.heap.size ∨ x = q) q bs a b) => r01bytes_any q bs a b kz wx h
                have hsn := rdS_le bs a b kz
                generalize rdS bs a b kz = s at hx hy hsn
                generalize rdSA bs a b kz = a' at hx hy
                generalize rdSB bs a b kz = b' at hx hy
                obtain ⟨ls, hls⟩ : ∃ ls, ls = s.length := ⟨_, rfl⟩
                simp only [← hls] at hx hy hsn
                have hl2 : ls ≤ 2000 := by have := HN.out; omega
                have HLS := Lib.hid hls
                have HX := Lib.hid hx
                have HY := Lib.hid hy
                have HR := Lib.hid hr
                have hqlt : q < wo.heap.size := let ⟨_, _, h, _⟩ := hr; lt_of_heap h
                have hsw := kp.size
                clear hx hy hr hp hls hsn
                go_wp2_with fail
                refine HX.out.mono ?_
                rintro e w5 ⟨ad5, cap5, rfl, ho5, hp5, kp5⟩
                have hr5 := HR.out.keepS kp5 (by intro x hx; simp at hx; omega)
                have kw5 : Kp [] w w5 := kp.trans kp5 (by simp) (by intro x hx; simp at hx; exact .inr (by omega))
                go_wp2_with fail
                refine (HY.out w5 hr5).mono ?_
                rintro e w6 ⟨ad6, cap6, rfl, ho6, hr6, kp6⟩
                have ho56 := ho5.keep kp6 (fun b hb => by have := (ho5.ob_ge b hb).1; simp; omega)
                have hp6 := rdr_keep_q hp5 kp6 (Nat.le_refl _)
                have kw6 : Kp [] w w6 := kw5.trans kp6 (by simp) (by intro x hx; simp at hx; exact .inr (by omega))
                have hcv5 := conv_str (P := Try.prog) w6 40 9 5 Try.underlying40 Try.underlying5 Try.underlying9 ad5 cap5 ls s ho56.rd HLS.out
                have hcv6 := conv_str (P := Try.prog) w6 40 9 5 Try.underlying40 Try.underlying5 Try.underlying9 ad6 cap6 ls s ho6.rd HLS.out
                have HO5 := Lib.hid ho56
                have HP6 := Lib.hid hp6
                have HR6 := Lib.hid hr6
                clear ho5 ho56 ho6 hp5 hp6 hr5 hr6 kp5 kp6 kw5
                go_wp2_with fail
                clear hcv5 hcv6
                go_loopw [73] (fun i wy => ∃ (j : Nat) (s' : List Int), j ≤ ls ∧ i = .int .i64 j ∧ s'.length = ls ∧ Own wy wo.heap.size 5 .u8 ad5 cap5 s' ∧ Rdr wy q p bs a' b' ∧ Rdr01 wy (fun x => x < w.heap.size ∨ x = q) q bs a' b' ∧ Kp [] w wy) (fun i _ => ls - (intOf i).toNat)
                case atStart => exact ⟨0, s, Nat.zero_le _, rfl, HLS.out.symm, HO5.out, HP6.out, HR6.out, kw6⟩
                case round =>
                  obtain ⟨j, s', hj, rfl, hs', ho', hp', hr', kp'⟩ := hrel
                  have HS' := Lib.hid hs'
                  clear hs' kw6
                  by_cases hlt2 : j < ls
                  · obtain ⟨g, rfl, q1, q2, q3, q4⟩ := ho'.at' (i := j) (by rw [HS'.out]; exact hlt2)
                    have HP' := Lib.hid hp'
                    have HR' := Lib.hid hr'
                    clear hp' hr'
                    go_wp2_with fail
                    go_roundw
                    case rel =>
                      exact ⟨j + 1, _, hlt2, by go_num, by simp [HS'.out], ho'.set j _, HP'.out.keepS ((Kp.refl [g] _).setCell _ _ (by simp)) (by intro x hx; simp at hx; omega), HR'.out.keepS ((Kp.refl [g] _).setCell _ _ (by simp)) (by intro x hx; simp at hx; omega), kp'.setCell _ _ (.inr (show w.heap.size ≤ g by omega))⟩
                    case measure => simp [intOf]; omega
                  · have HP' := Lib.hid hp'
                    have HR' := Lib.hid hr'
                    clear hp' hr'
                    go_wp2_with fail
                    go_meet
                    exact ⟨0, a', b', rfl, rfl, HP'.out, HR'.out, kp'⟩
          case rest =>
            obtain ⟨v, a', b', rfl, rfl, hp', hr', kp'⟩ := hcut
            have HP' := Lib.hid hp'
            have HR' := Lib.hid hr'
            clear hp' hr' hp hr hcell kp
            go_wp2_with fail
            refine wp_region_K (by kernel_rfl) [.val (.int .u64 (v : Int)), .val (.int .u64 (v : Int)), .val (.bool false), .val (.bool false), .val (.pointer (some ⟨p, 0, none⟩)), .val (.bool b'), .val (.pointer (some ⟨q, 0, none⟩)), .val (.pointer (some ⟨q, 0, none⟩)), .val (.pointer (some ⟨q, 2, none⟩)), .val (.bool b'), .val (.bool false), .val (.bool false), .val (.bool false), .val (.pointer (some ⟨p, 0, none⟩)), .val (.int .i64 (a' : Int)), .val (.pointer (some ⟨q, 0, none⟩)), .val (.pointer (some ⟨q, 0, none⟩)), .val (.pointer (some ⟨q, 1, none⟩)), .val (.int .i64 (a' : Int)), .val (.bool false), .val (.bool false), .val (.bool false), .val (.pointer (some ⟨p, 0, none⟩)), .val (.int .i64 (lf bs a' b')), .val (.pointer (some ⟨q, 0, none⟩)), .val (.int .i64 (lf bs a' b')), .val (.bool false), .val (.bool false)] [[(11, none)], [(12, none)], [(116, some 0), (117, some 1)], [(118, some 2)], [(119, some 3), (6, none)], [(119, some 3), (120, some 4)], [(119, some 3), (7, none)], [(119, some 3), (122, some 6)], [(119, some 3), (123, some 7)], [(119, some 3), (124, some 8)], [(119, some 3), (121, some 5), (125, some 9)], [(119, some 3), (126, some 10)], [(127, some 11)], [(128, some 12), (6, none)], [(128, some 12), (129, some 13)], [(128, some 12), (7, none)], [(128, some 12), (131, some 15)], [(128, some 12), (132, some 16)], [(128, some 12), (133, some 17)], [(128, some 12), (130, some 14), (134, some 18)], [(128, some 12), (135, some 19)], [(136, some 20)], [(137, some 21), (6, none)], [(137, some 21), (138, some 22)], [(137, some 21), (7, none)], [(137, some 21), (140, some 24)], [(137, some 21), (139, some 23), (141, some 25)], [(137, some 21), (142, some 26)]] rfl (by kernel_rfl) ?_ ?_
            · refine ⟨?o0, ?o1, ?o2, ?o3, ?o4, ?o5, ?o6, ?o7, ?o8, ?o9, ?o10, ?o11, ?o12, ?o13, ?o14, ?o15, ?o16, ?o17, ?o18, ?o19, ?o20, ?o21, ?o22, ?o23, ?o24, ?o25, ?o26, ?o27, trivial⟩
              case o0 => intro aR wR hR; replace hR := hR.undrew; intro (h11 : aR.tmps[11]? = some (.int .u64 (v : Int))); exact exec_val (c := .int .u64 (v : Int)) (wanted_none rfl) (by go_simp) rfl
              case o1 => intro aR wR hR; replace hR := hR.undrew; intro (h12 : aR.tmps[12]? = some (.int .u64 (v : Int))); exact exec_val (c := .int .u64 (v : Int)) (wanted_none rfl) (by go_simp) rfl
              case o2 => intro aR wR hR; replace hR := hR.undrew; intro v116 h116 e116; replace e116 : v116 = .int .u64 (v : Int) := e116; subst e116; intro v117 h117 e117; replace e117 : v117 = .int .u64 (v : Int) := e117; subst e117; exact exec_val (c := .bool false) (wanted_none rfl) (by go_simp) rfl
              case o3 => intro aR wR hR; replace hR := hR.undrew; intro v118 h118 e118; replace e118 : v118 = .bool false := e118; subst e118; exact exec_val (c := .bool false) (wanted_none rfl) (by go_simp) rfl
              case o4 => intro aR wR hR; replace hR := hR.undrew; intro v119 h119 e119; replace e119 : v119 = .bool false := e119; subst e119; intro (h6 : aR.tmps[6]? = some (.pointer (some ⟨p, 0, none⟩))); exact exec_val (c := .pointer (some ⟨p, 0, none⟩)) (wanted_yes (b := false) (t := 119) rfl rfl h119) (by go_simp) rfl
              case o5 => intro aR wR hR; replace hR := hR.undrew; intro v119 h119 e119; replace e119 : v119 = .bool false := e119; subst e119; intro v120 h120 e120; replace e120 : v120 = .pointer (some ⟨p, 0, none⟩) := e120; subst e120; refine exec_call (wanted_yes (b := false) (t := 119) rfl rfl h119) (by go_simp; exact ⟨rfl, rfl⟩) ?_; refine (cbad_any p bs a' b' _ (HP'.out.keep hR)).mono ?_; rintro e w2 ⟨rfl, rfl⟩; exact ⟨_, rfl, rfl, Kp.refl _ _⟩
              case o6 => intro aR wR hR; replace hR := hR.undrew; intro v119 h119 e119; replace e119 : v119 = .bool false := e119; subst e119; intro (h7 : aR.tmps[7]? = some (.pointer (some ⟨q, 0, none⟩))); exact exec_val (c := .pointer (some ⟨q, 0, none⟩)) (wanted_yes (b := false) (t := 119) rfl rfl h119) (by go_simp) rfl
              case o7 => intro aR wR hR; replace hR := hR.undrew; intro v119 h119 e119; replace e119 : v119 = .bool false := e119; subst e119; intro v122 h122 e122; replace e122 : v122 = .pointer (some ⟨q, 0, none⟩) := e122; subst e122; exact exec_val (c := .pointer (some ⟨q, 0, none⟩)) (wanted_yes (b := false) (t := 119) rfl rfl h119) (by go_simp) rfl
              case o8 => intro aR wR hR; replace hR := hR.undrew; intro v119 h119 e119; replace e119 : v119 = .bool false := e119; subst e119; intro v123 h123 e123; replace e123 : v123 = .pointer (some ⟨q, 0, none⟩) := e123; subst e123; exact exec_val (c := .pointer (some ⟨q, 2, none⟩)) (wanted_yes (b := false) (t := 119) rfl rfl h119) (by go_simp) rfl
              case o9 => intro aR wR hR; replace hR := hR.undrew; intro v119 h119 e119; replace e119 : v119 = .bool false := e119; subst e119; intro v124 h124 e124; replace e124 : v124 = .pointer (some ⟨q, 2, none⟩) := e124; subst e124; have hc := (HR'.out.keep hR).c2.2.1; exact exec_val (c := .bool b') (wanted_yes (b := false) (t := 119) rfl rfl h119) (by go_simp) rfl
              case o10 => intro aR wR hR; replace hR := hR.undrew; intro v119 h119 e119; replace e119 : v119 = .bool false := e119; subst e119; intro v121 h121 e121; replace e121 : v121 = .bool b' := e121; subst e121; intro v125 h125 e125; replace e125 : v125 = .bool b' := e125; subst e125; exact exec_val (c := .bool false) (wanted_yes (b := false) (t := 119) rfl rfl h119) (by go_simp) rfl
              case o11 => intro aR wR hR; replace hR := hR.undrew; intro v119 h119 e119; replace e119 : v119 = .bool false := e119; subst e119; intro v126 h126 e126; replace e126 : v126 = .bool false := e126; subst e126; exact exec_val (c := .bool false) (wanted_none rfl) (by go_simp) rfl
              case o12 => intro aR wR hR; replace hR := hR.undrew; intro v127 h127 e127; replace e127 : v127 = .bool false := e127; subst e127; exact exec_val (c := .bool false) (wanted_none rfl) (by go_simp) rfl
              case o13 => intro aR wR hR; replace hR := hR.undrew; intro v128 h128 e128; replace e128 : v128 = .bool false := e128; subst e128; intro (h6 : aR.tmps[6]? = some (.pointer (some ⟨p, 0, none⟩))); exact exec_val (c := .pointer (some ⟨p, 0, none⟩)) (wanted_yes (b := false) (t := 128) rfl rfl h128) (by go_simp) rfl
              case o14 => intro aR wR hR; replace hR := hR.undrew; intro v128 h128 e128; replace e128 : v128 = .bool false := e128; subst e128; intro v129 h129 e129; replace e129 : v129 = .pointer (some ⟨p, 0, none⟩) := e129; subst e129; refine exec_call (wanted_yes (b := false) (t := 128) rfl rfl h128) (by go_simp; exact ⟨rfl, rfl⟩) ?_; refine (cat_any p bs a' b' _ (HP'.out.keep hR)).mono ?_; rintro e w2 ⟨rfl, rfl⟩; exact ⟨_, rfl, rfl, Kp.refl _ _⟩
              case o15 => intro aR wR hR; replace hR := hR.undrew; intro v128 h128 e128; replace e128 : v128 = .bool false := e128; subst e128; intro (h7 : aR.tmps[7]? = some (.pointer (some ⟨q, 0, none⟩))); exact exec_val (c := .pointer (some ⟨q, 0, none⟩)) (wanted_yes (b := false) (t := 128) rfl rfl h128) (by go_simp) rfl
              case o16 => intro aR wR hR; replace hR := hR.undrew; intro v128 h128 e128; replace e128 : v128 = .bool false := e128; subst e128; intro v131 h131 e131; replace e131 : v131 = .pointer (some ⟨q, 0, none⟩) := e131; subst e131; exact exec_val (c := .pointer (some ⟨q, 0, none⟩)) (wanted_yes (b := false) (t := 128) rfl rfl h128) (by go_simp) rfl
              case o17 => intro aR wR hR; replace hR := hR.undrew; intro v128 h128 e128; replace e128 : v128 = .bool false := e128; subst e128; intro v132 h132 e132; replace e132 : v132 = .pointer (some ⟨q, 0, none⟩) := e132; subst e132; exact exec_val (c := .pointer (some ⟨q, 1, none⟩)) (wanted_yes (b := false) (t := 128) rfl rfl h128) (by go_simp) rfl
              case o18 => intro aR wR hR; replace hR := hR.undrew; intro v128 h128 e128; replace e128 : v128 = .bool false := e128; subst e128; intro v133 h133 e133; replace e133 : v133 = .pointer (some ⟨q, 1, none⟩) := e133; subst e133; have hc := (HR'.out.keep hR).c2.1; exact exec_val (c := .int .i64 (a' : Int)) (wanted_yes (b := false) (t := 128) rfl rfl h128) (by go_simp) rfl
              case o19 => intro aR wR hR; replace hR := hR.undrew; intro v128 h128 e128; replace e128 : v128 = .bool false := e128; subst e128; intro v130 h130 e130; replace e130 : v130 = .int .i64 (a' : Int) := e130; subst e130; intro v134 h134 e134; replace e134 : v134 = .int .i64 (a' : Int) := e134; subst e134; exact exec_val (c := .bool false) (wanted_yes (b := false) (t := 128) rfl rfl h128) (by go_simp) rfl
              case o20 => intro aR wR hR; replace hR := hR.undrew; intro v128 h128 e128; replace e128 : v128 = .bool false := e128; subst e128; intro v135 h135 e135; replace e135 : v135 = .bool false := e135; subst e135; exact exec_val (c := .bool false) (wanted_none rfl) (by go_simp) rfl
              case o21 => intro aR wR hR; replace hR := hR.undrew; intro v136 h136 e136; replace e136 : v136 = .bool false := e136; subst e136; exact exec_val (c := .bool false) (wanted_none rfl) (by go_simp) rfl
              case o22 => intro aR wR hR; replace hR := hR.undrew; intro v137 h137 e137; replace e137 : v137 = .bool false := e137; subst e137; intro (h6 : aR.tmps[6]? = some (.pointer (some ⟨p, 0, none⟩))); exact exec_val (c := .pointer (some ⟨p, 0, none⟩)) (wanted_yes (b := false) (t := 137) rfl rfl h137) (by go_simp) rfl
              case o23 => intro aR wR hR; replace hR := hR.undrew; intro v137 h137 e137; replace e137 : v137 = .bool false := e137; subst e137; intro v138 h138 e138; replace e138 : v138 = .pointer (some ⟨p, 0, none⟩) := e138; subst e138; refine exec_call (wanted_yes (b := false) (t := 137) rfl rfl h137) (by go_simp; exact ⟨rfl, rfl⟩) ?_; refine (cleft_any p bs a' b' _ (HP'.out.keep hR)).mono ?_; rintro e w2 ⟨rfl, kp2⟩; exact ⟨_, rfl, rfl, kp2⟩
              case o24 => intro aR wR hR; replace hR := hR.undrew; intro v137 h137 e137; replace e137 : v137 = .bool false := e137; subst e137; intro (h7 : aR.tmps[7]? = some (.pointer (some ⟨q, 0, none⟩))); exact exec_val (c := .pointer (some ⟨q, 0, none⟩)) (wanted_yes (b := false) (t := 137) rfl rfl h137) (by go_simp) rfl
              case o25 => intro aR wR hR; replace hR := hR.undrew; intro v137 h137 e137; replace e137 : v137 = .bool false := e137; subst e137; intro v140 h140 e140; replace e140 : v140 = .pointer (some ⟨q, 0, none⟩) := e140; subst e140; refine exec_call (wanted_yes (b := false) (t := 137) rfl rfl h137) (by go_simp; exact ⟨rfl, rfl⟩) ?_; refine (r01left_any q bs a' b' _ (HR'.out.keep hR)).mono ?_; rintro e w2 ⟨rfl, kp2⟩; exact ⟨_, rfl, rfl, kp2⟩
              case o26 => intro aR wR hR; replace hR := hR.undrew; intro v137 h137 e137; replace e137 : v137 = .bool false := e137; subst e137; intro v139 h139 e139; replace e139 : v139 = .int .i64 (lf bs a' b') := e139; subst e139; intro v141 h141 e141; replace e141 : v141 = .int .i64 (lf bs a' b') := e141; subst e141; exact exec_val (c := .bool false) (wanted_yes (b := false) (t := 137) rfl rfl h137) (by go_simp) rfl
              case o27 => intro aR wR hR; replace hR := hR.undrew; intro v137 h137 e137; replace e137 : v137 = .bool false := e137; subst e137; intro v142 h142 e142; replace e142 : v142 = .bool false := e142; subst e142; exact exec_val (c := .bool false) (wanted_none rfl) (by go_simp) rfl
            · intro vs wR hR hV
              obtain ⟨e0, e1, e2, e3, e4, e5, e6, e7, e8, e9, e10, e11, e12, e13, e14, e15, e16, e17, e18, e19, e20, e21, e22, e23, e24, e25, e26, e27, -⟩ := hV
              replace e0 : vs 0 = .int .u64 (v : Int) := e0
              replace e1 : vs 1 = .int .u64 (v : Int) := e1
              replace e2 : vs 2 = .bool false := e2
              replace e3 : vs 3 = .bool false := e3
              replace e4 : vs 4 = .pointer (some ⟨p, 0, none⟩) := e4
              replace e5 : vs 5 = .bool b' := e5
              replace e6 : vs 6 = .pointer (some ⟨q, 0, none⟩) := e6
              replace e7 : vs 7 = .pointer (some ⟨q, 0, none⟩) := e7
              replace e8 : vs 8 = .pointer (some ⟨q, 2, none⟩) := e8
              replace e9 : vs 9 = .bool b' := e9
              replace e10 : vs 10 = .bool false := e10
              replace e11 : vs 11 = .bool false := e11
              replace e12 : vs 12 = .bool false := e12
              replace e13 : vs 13 = .pointer (some ⟨p, 0, none⟩) := e13
              replace e14 : vs 14 = .int .i64 (a' : Int) := e14
              replace e15 : vs 15 = .pointer (some ⟨q, 0, none⟩) := e15
              replace e16 : vs 16 = .pointer (some ⟨q, 0, none⟩) := e16
              replace e17 : vs 17 = .pointer (some ⟨q, 1, none⟩) := e17
              replace e18 : vs 18 = .int .i64 (a' : Int) := e18
              replace e19 : vs 19 = .bool false := e19
              replace e20 : vs 20 = .bool false := e20
              replace e21 : vs 21 = .bool false := e21
              replace e22 : vs 22 = .pointer (some ⟨p, 0, none⟩) := e22
              replace e23 : vs 23 = .int .i64 (lf bs a' b') := e23
              replace e24 : vs 24 = .pointer (some ⟨q, 0, none⟩) := e24
              replace e25 : vs 25 = .int .i64 (lf bs a' b') := e25
              replace e26 : vs 26 = .bool false := e26
              replace e27 : vs 27 = .bool false := e27
              simp only [putAll, e0, e1, e2, e3, e4, e5, e6, e7, e8, e9, e10, e11, e12, e13, e14, e15, e16, e17, e18, e19, e20, e21, e22, e23, e24, e25, e26, e27, Nat.reduceAdd, Nat.zero_add]
              clear e0 e1 e2 e3 e4 e5 e6 e7 e8 e9 e10 e11 e12 e13 e14 e15 e16 e17 e18 e19 e20 e21 e22 e23 e24 e25 e26 e27
              simp only [List.setIfInBounds_toArray, List.set_cons_succ, List.set_cons_zero]
              go_wp2_with fail
              go_roundw
              case rel => exact ⟨k + 1, a', b', hlt, by go_num, HP'.out.keep hR, HR'.out.keep hR, kp'.tr hR⟩
              case measure => simp [intOf]; omega
        · go_wp2_with (go_at_call 23; refine (known01 _).mono ?_; rintro e w' ⟨rfl, kp2⟩)
          go_ret
          exact ⟨rfl, kp.tr kp2⟩
end Go.Proofs.Ytanodmjolphpfaa
