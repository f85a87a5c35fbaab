/-
  Layer 3: the law of reading.
-/
import Derived.Test.YtlcilinobdjlaaaCrc5
namespace Go.Proofs.Ytlcilinobdjlaaa
open Go.RowKit
set_option linter.unusedSimpArgs false
set_option linter.unusedVariables false

theorem Own.keepO {w w' : World} {base base2 : Nat} {e : TypeId} {k : IntKind} {ad ad2 : Option Addr} {cap cap2 : Nat} {zs : List Int} (h : Own w base e k ad cap zs) (hk : Kp (ob ad2 cap2) w w') {w2 : World} {xs : List Int} (h2 : Own w2 base2 e k ad2 cap2 xs) {u : World} {zs' : List Int} {b3 : Nat} {e3 : TypeId} {k3 : IntKind} (hu : Own u b3 e3 k3 ad cap zs') (hb : u.heap.size ≤ base2) : Own w' base e k ad cap zs :=
  h.keep hk (fun b hb1 hb2 => by have := (hu.ob_ge b hb1).2; have := (h2.ob_ge b hb2).1; omega)
theorem Rd.keepO {w w' u : World} {k : IntKind} {ad ad2 : Option Addr} {cap cap2 base2 : Nat} {zs xs : List Int} {e2 : TypeId} {k2 : IntKind} (h : Rd w k ad cap zs) (hk : Kp (ob ad2 cap2) w w') {w2 : World} (h2 : Own w2 base2 e2 k2 ad2 cap2 xs) (hu : Rd u k ad cap zs) (hb : u.heap.size ≤ base2) : Rd w' k ad cap zs :=
  h.keepne hk (fun x hx hne hm => by have := hu.lt x hx hne; have := (h2.ob_ge _ hm).1; omega)

set_option maxRecDepth 100000 in
set_option maxHeartbeats 800000 in
theorem crcReads_any (a0 : Option Addr) (cap0 n : Nat) (at' : Int) (zs : List Int) (hn : n = zs.length) (w : World) (hr : Rd w .u8 a0 cap0 zs) (hb : Bytes8 zs) :
    Calls Try.prog 4 #[.slice a0 n cap0, .int .i64 at'] w fun e w' => e = .returned (.bool true) ∧ Kp [] w w' := by
  have HR := Lib.hid hr
  have HN := Lib.hid hn
  have hcm := hr.2.1
  have hcl := hr.1
  rw [← hn] at hcl
  clear hr hn
  by_cases h0 : (3000 : Int) < (n : Int)
  · go_enter Try.func4, Try.ntmps4
    go_wp2_with fail
    refine (known03_any _).mono ?_
    rintro e w1 ⟨rfl, kp1⟩
    go_wp2_with fail
    go_ret
    exact ⟨rfl, kp1⟩
  · go_enter Try.func4, Try.ntmps4
    go_wp2_with (at_builtin; refine wpList_copyB rfl (.tmp 17) (.tmp 18) 22 22 rfl w.heap.size 5 .u8 1 Try.underlying22 Try.underlying22 infoU8 (some ⟨w.heap.size, 0, none⟩) a0 cap0 n zs HN.out rfl rfl (HR.out.alloc _) (by omega) (by omega) (by simp) ?_; intro ad1 cap1 w1 ho1 kp1; have HO1 := Lib.hid ho1; have HK1 := Lib.hid (((Kp.refl [] w).alloc _).tr kp1); clear ho1 kp1)
    refine (kUnframe_any ad1 cap1 n at' zs HN.out _ HO1.out.rd hb (by omega)).mono ?_
    rintro e w2 ⟨ad2, cap2, rfl, ho2, kp2⟩
    have HO2 := Lib.hid ho2
    have HK2 := Lib.hid kp2
    have hxl := unX_length zs at'
    rw [← HN.out] at hxl
    have hxb := unX_bytes hb at'
    obtain ⟨x, hx⟩ : ∃ x, x = unX zs at' := ⟨_, rfl⟩
    rw [← hx] at hxl hxb HO2 ⊢
    obtain ⟨lx, hlx⟩ : ∃ lx, lx = x.length := ⟨_, rfl⟩
    rw [← hlx] at hxl ⊢
    have HLX := Lib.hid hlx
    have HX := Lib.hid hx
    clear ho2 kp2 hlx hx
    go_wp2_with fail
    refine (r03Unframe_any a0 cap0 n at' zs HN.out _ (HR.out.keep0 (HK1.out.tr HK2.out)) hb (by omega)).mono ?_
    rintro e w3 ⟨ad3, cap3, rfl, ho3, kp3⟩
    rw [← HX.out] at ho3 ⊢
    rw [← HLX.out]
    have HK3 := Lib.hid kp3
    have ho2 := HO2.out.keep0 kp3
    have hcv1 := fun wx hk => cvs wx ad2 cap2 lx x ((ho2.rd).keep0 (w' := wx) hk) HLX.out
    have hcv2 := fun wx hk => cvs wx ad3 cap3 lx x ((ho3.rd).keep0 (w' := wx) hk) HLX.out
    have hv1 := hcv1 w3 (Kp.refl [] _)
    have hv2 := hcv2 w3 (Kp.refl [] _)
    have HO2' := Lib.hid ho2
    clear ho2 ho3 kp3 hcv1 hcv2
    go_wp2_with fail
    have hbase : w2.heap.size ≤ w3.heap.size := HK3.out.size
    have hbase1 : w1.heap.size ≤ w2.heap.size := HK2.out.size
    have hbase0 : w.heap.size ≤ w1.heap.size := HK1.out.size
    go_loopw [12, 51] (fun _ vi wr => ∃ (k : Nat) (xs : List Int), k ≤ lx ∧ vi = .int .i64 k ∧ Own wr w1.heap.size 5 .u8 ad2 cap2 xs ∧ xs.length = lx ∧ Kp (ob ad2 cap2) w3 wr) (fun _ i _ => lx - (intOf i).toNat)
    case atStart => exact ⟨0, x, Nat.zero_le _, rfl, HO2'.out, HLX.out.symm, Kp.refl _ _⟩
    case round =>
      obtain ⟨k, xs, hk, rfl, ho, hxs, kp⟩ := hrel
      clear hv1 hv2
      by_cases hlt : k < lx
      · obtain ⟨g, rfl, hc, hf, hg1, hg2⟩ := ho.at' (i := k) (by omega)
        obtain ⟨z, hz⟩ : ∃ z, z = nth xs k := ⟨_, rfl⟩
        rw [← hz] at hc
        have hset := ho.set k (IntKind.u8.wrap (z + 1))
        have hkp := kp_same kp ((Kp.refl (ob (some ⟨g, 0, none⟩) cap2) wr).setCell ⟨g, k, none⟩ (.int .u8 (IntKind.u8.wrap (z + 1))) (.inl hg2))
        have hcap := ho.rd.1
        have HO := Lib.hid hset
        have HKP := Lib.hid hkp
        have hws : (IntKind.u8.wrap (z + 1)) = (z + 1) % 256 := IntKind.wrap_u8 _
        rw [hws] at HO HKP
        clear hset hkp hz hws ho kp
        go_wp2_with fail
        go_roundw
        case rel => exact ⟨k + 1, _, by omega, by go_num, HO.out, by simp [hxs], HKP.out⟩
        case measure => simp [intOf]; omega
      · have hro := HO1.out.keep0 (HK2.out.tr HK3.out)
        have hv1 := cvs wr ad1 cap1 n zs ((hro.keepO kp ho HO1.out (Nat.le_refl _)).rd) HN.out
        have hv2 := cvs wr a0 cap0 n zs (((HR.out.keep0 (HK1.out.tr (HK2.out.tr HK3.out))).keepO kp ho HR.out hbase0)) HN.out
        have hkk : Kp [] w wr := (HK1.out.tr (HK2.out.tr HK3.out)).trans kp (U := []) (by simp) (fun x hx => .inr (by have := (ho.ob_ge x hx).1; omega))
        have HKK := Lib.hid hkk
        clear hro ho kp hkk
        go_wp2_with fail
        refine (known03_any _).mono ?_
        rintro e w5 ⟨rfl, kp5⟩
        go_wp2_with fail
        go_ret
        exact ⟨rfl, HKK.out.tr kp5⟩
end Go.Proofs.Ytlcilinobdjlaaa
